/-
  The generic walking kit of this claim: as the text before, the class of worlds turning on the way (what only reads is asked in the worlds of its own place alone). It speaks of any program.
-/
import Derived.Test.YtjpebmgllfiloaaDoorCut
namespace Go.Proofs.YtjpebmgllfiloaaDoor.Wk
open Go Go.RowKit

section
variable {P : Program} {ops : Array Oper} {C : Nat → World → Prop} {Q : Exit → Act → World → Prop}
/-- Is the one bound ahead of the other? -/
def bd (ops : Array Oper) (i j : Nat) : Bool := (ahead ops ops.size [j]).contains i
def TSn (P : Program) (ops : Array Oper) (C : Nat → World → Prop) (Q : Exit → Act → World → Prop) : List Nat → Act → World → Prop
  | [], a, w => Q .normal a w
  | i :: l, a, w => if isQ ops i = true then (∃ o v, ops[i]? = some o ∧ YieldsIn P ops (C i) o v a ∧ TSn P ops C Q l (a.put o.dst v) w)
    else if i + 1 = ops.size then wpOp P ops Q i (fun a' w' => Q .normal a' w') a w else wpOp P ops QF i (fun a' w' => ((∀ k ∈ l, C k w') ∧ ∀ k, bd ops k i = false → C k w') ∧ TSn P ops C Q l a' w') a w
theorem TSn_quiet {j : Nat} {oj : Oper} {post : List Nat} (hj : ops[j]? = some oj) (hq : isQ ops j = true) : ∀ (pre : List Nat) (a : Act) (w : World), (∀ i ∈ pre, Free ops i j) → (∀ k ∈ pre ++ j :: post, C k w) → TSn P ops C Q (pre ++ j :: post) a w →
    ∃ v, YieldsIn P ops (C j) oj v a ∧ TSn P ops C Q (pre ++ post) (a.put oj.dst v) w
  | [], a, w, _, _, h => by
    rw [List.nil_append, TSn, if_pos hq] at h
    obtain ⟨o, v, ho, hy, ht⟩ := h
    rw [hj] at ho
    cases ho
    exact ⟨v, hy, ht⟩
  | i :: pre, a, w, hf, hC, h => by
    obtain ⟨⟨oi, oj', hi, hj', h1, h2, s1, s2⟩, _, hnl⟩ := hf i (by simp)
    rw [hj] at hj'
    cases hj'
    have hrj : readB oj.op = true := by unfold isQ at hq; rw [hj] at hq; exact hq
    obtain ⟨_, hne, _⟩ := Oper.apart_spec h1
    rw [List.cons_append, TSn] at h
    by_cases hqi : isQ ops i = true
    · rw [if_pos hqi] at h
      obtain ⟨o, vi, ho, hy, ht⟩ := h
      rw [hi] at ho
      cases ho
      obtain ⟨v, hyv, hts⟩ := TSn_quiet hj hq pre _ w (fun k hk => hf k (by simp [hk])) (fun k hk => hC k (by rw [List.cons_append]; exact List.mem_cons_of_mem _ hk)) ht
      refine ⟨v, (yields_unput h1 s2).1 hyv, ?_⟩
      rw [List.cons_append, TSn, if_pos hqi]
      refine ⟨oi, vi, hi, (yields_unput h2 s1).2 hy, ?_⟩
      rw [← Act.put_comm a vi v hne]
      exact hts
    · rw [if_neg hqi, if_neg hnl] at h
      obtain ⟨u, ds', w', ⟨hC', _⟩, ht'⟩ := wpOp_exists hi h
      obtain ⟨v, hyv, _⟩ := TSn_quiet hj hq pre _ w' (fun k hk => hf k (by simp [hk])) hC' ht'
      have hya := yields_wd.1 ((yields_unput h1 s2).1 hyv)
      have key : wpOp P ops QF i (fun a' w' => ((∀ k ∈ pre ++ post, C k w') ∧ ∀ k, bd ops k i = false → C k w') ∧ TSn P ops C Q (pre ++ post) a' w') (a.put oj.dst v) w := by
        refine wpOp_reput hi h2 s1 ?_ h
        rintro u' ds1 w1 ⟨⟨hC1, hB1⟩, ht1⟩
        obtain ⟨v1, hy1, hts1⟩ := TSn_quiet hj hq pre _ w1 (fun k hk => hf k (by simp [hk])) hC1 ht1
        have : v1 = v := yields_unique (hC1 j (by simp)) hrj (yields_wd.1 ((yields_unput h1 s2).1 hy1)) hya
        subst this
        refine ⟨⟨fun k hk => hC1 k (by rcases List.mem_append.1 hk with h | h <;> simp [h]), hB1⟩, ?_⟩
        rw [← Act.put_comm (wd a ds1) u' v1 hne]
        exact hts1
      refine ⟨v, hya, ?_⟩
      rw [List.cons_append, TSn, if_neg hqi, if_neg hnl]
      exact key
/-- An operation that may come up now may be taken first. -/
theorem TSn_first {j : Nat} {post : List Nat} (hjn : j < ops.size) : ∀ (pre : List Nat) (a : Act) (w : World), (∀ i ∈ pre, Free ops i j) → (∀ i ∈ pre ++ post, bd ops i j = false) → (isQ ops j = false → j + 1 = ops.size → pre = [] ∧ post = []) → (∀ k ∈ pre ++ j :: post, C k w) → TSn P ops C Q (pre ++ j :: post) a w →
    (isQ ops j = false ∧ pre ++ post = [] ∧ wpOp P ops Q j (fun a' w' => Q .normal a' w') a w) ∨ wpOp P ops QF j (fun a' w' => (∀ k ∈ pre ++ post, C k w') ∧ TSn P ops C Q (pre ++ post) a' w') a w := by
  intro pre a w hf hbd hlast hC h
  obtain ⟨oj, hj⟩ : ∃ oj, ops[j]? = some oj := ⟨ops[j], Array.getElem?_eq_getElem hjn⟩
  cases hq : isQ ops j with
  | true =>
    obtain ⟨v, hy, ht⟩ := TSn_quiet hj hq pre a w hf hC h
    have hrj : readB oj.op = true := by unfold isQ at hq; rw [hj] at hq; exact hq
    exact .inr (YieldsS.wpOp hj hy hrj (hC j (by simp)) ⟨fun k hk => hC k (by rcases List.mem_append.1 hk with h | h <;> simp [h]), ht⟩)
  | false =>
    have hl := hlast hq
    clear hlast
    by_cases hpost : j + 1 = ops.size
    · obtain ⟨rfl, rfl⟩ := hl hpost
      rw [List.nil_append, TSn, if_neg (by rw [hq]; simp), if_pos hpost] at h
      exact .inl ⟨rfl, rfl, h⟩
    · right
      clear hl
      have key : wpOp P ops QF j (fun a' w' => (∀ k, bd ops k j = false → C k w') ∧ TSn P ops C Q (pre ++ post) a' w') a w := by
        clear hC
        induction pre generalizing a with
        | nil =>
          rw [List.nil_append, TSn, if_neg (by rw [hq]; simp), if_neg hpost] at h
          exact wpOp_mono (fun a' w' h' => ⟨h'.1.2, h'.2⟩) h
        | cons i pre ih =>
          obtain ⟨⟨oi, oj', hi, hj', h1, h2, s1, s2⟩, hone, _⟩ := hf i (by simp)
          rw [hj] at hj'
          cases hj'
          have hqi : isQ ops i = true := by rcases hone with h | h; exact h; rw [hq] at h; cases h
          rw [List.cons_append, TSn, if_pos hqi] at h
          obtain ⟨o, vi, ho, hy, ht⟩ := h
          rw [hi] at ho
          cases ho
          have := ih _ (fun k hk => hf k (by simp [hk])) (fun k hk => hbd k (by rw [List.cons_append]; exact List.mem_cons_of_mem _ hk)) ht
          refine wpOp_mono (fun a' w' h' => ?_) (wpOp_put hj h1 s1 s2 hy this)
          obtain ⟨hy', hC', ht'⟩ := h'
          refine ⟨hC', ?_⟩
          rw [List.cons_append, TSn, if_pos hqi]
          exact ⟨oi, vi, hi, hy', ht'⟩
      exact wpOp_mono (fun a' w' h' => ⟨fun k hk => h'.1 k (hbd k hk), h'.2⟩) key

theorem wpAny_of_TSn (hok : okT ops = true) : ∀ (fuel : Nat) (listed : Array Bool) (a : Act) (w : World), listed.size = ops.size → (left ops listed).length = fuel → Clos ops listed → (∀ k ∈ left ops listed, C k w) → TSn P ops C Q (left ops listed) a w → wpAny P .any ops Q fuel listed a w := by
  simp only [okT, Bool.and_eq_true] at hok
  obtain ⟨⟨⟨hns, hpair⟩, hdown⟩, hlast⟩ := hok
  have hsel := Region.noSelect_spec hns
  have rdy : ∀ listed : Array Bool, listed.size = ops.size → ∀ i, i ∈ Region.ready .any ops listed → i ∈ left ops listed := by
    intro listed hs i hi
    obtain ⟨h0, o, ho, _⟩ := mem_ready.1 hi
    unfold left
    rw [List.mem_filter, List.mem_range]
    exact ⟨(Array.getElem?_eq_some_iff.1 ho).1, by simp [h0]⟩
  intro fuel
  induction fuel with
  | zero =>
    intro listed a w hs hl hcl hC h
    have hnil : left ops listed = [] := List.eq_nil_of_length_eq_zero hl
    rw [hnil] at h
    refine ⟨?_, h⟩
    rw [List.eq_nil_iff_forall_not_mem]
    intro i hi
    have := rdy listed hs i hi
    rw [hnil] at this
    cases this
  | succ fuel ih =>
    intro listed a w hs hl hcl hC h
    refine ⟨fun h0 => ?_, fun j hj => ?_⟩
    · exfalso
      cases hL : left ops listed with
      | nil => rw [hL] at hl; cases hl
      | cons i l =>
        have hmem : i ∈ left ops listed := by rw [hL]; simp
        have hmem' := hmem
        unfold left at hmem
        rw [List.mem_filter, List.mem_range] at hmem
        have hall : ∀ k, k < i → listed.getD k false = true := by
          intro k hk
          have hks : k < ops.size := by omega
          cases hb : listed.getD k true with
          | true => simpa [Array.getD_eq_getD_getElem?, hs, hks] using hb
          | false =>
            have hkm : k ∈ left ops listed := by unfold left; rw [List.mem_filter, List.mem_range]; exact ⟨hks, by simp [hb]⟩
            have hsort : (left ops listed).Pairwise (· < ·) := List.Pairwise.sublist List.filter_sublist List.pairwise_lt_range
            rw [hL] at hkm hsort
            rcases List.mem_cons.1 hkm with e | e
            · omega
            · have := (List.pairwise_cons.1 hsort).1 k e; omega
        have : i ∈ Region.ready .any ops listed := by
          refine mem_ready.2 ⟨by simpa using hmem.2, ops[i], Array.getElem?_eq_getElem hmem.1, fun e he hb => ?_⟩
          have h3 := List.all_eq_true.1 hdown i (List.mem_range.2 hmem.1)
          rw [Array.getElem?_eq_getElem hmem.1] at h3
          have h4 := Array.all_eq_true'.1 h3 e he
          rw [hb] at h4
          exact hall e.on (by simpa using h4)
        rw [h0] at this
        cases this
    · obtain ⟨pre, post, hL⟩ := List.append_of_mem (rdy listed hs j hj)
      rw [hL] at h hC
      obtain ⟨_, oj, hoj, _⟩ := mem_ready.1 hj
      have hjs : j < ops.size := (Array.getElem?_eq_some_iff.1 hoj).1
      have hnd : (left ops listed).Nodup := List.Nodup.sublist List.filter_sublist List.nodup_range
      have hsort : (left ops listed).Pairwise (· < ·) := List.Pairwise.sublist List.filter_sublist List.pairwise_lt_range
      have hunl : ∀ i ∈ left ops listed, i < ops.size ∧ listed.getD i true = false := fun i hi => by
        unfold left at hi
        rw [List.mem_filter, List.mem_range] at hi
        exact ⟨hi.1, by simpa using hi.2⟩
      have hbehind : ∀ k, k ∈ ahead ops ops.size [j] → k = j ∨ listed.getD k false = true := ahead_spec hcl hj _ _ (by simp)
      have hfree : ∀ i ∈ pre, Free ops i j := by
        intro i hi
        have him : i ∈ left ops listed := by rw [hL]; simp [hi]
        obtain ⟨his, hun⟩ := hunl i him
        have hij : i < j := by rw [hL] at hsort; exact (List.pairwise_append.1 hsort).2.2 i hi j (by simp)
        have h3 := List.all_eq_true.1 (List.all_eq_true.1 hpair j (List.mem_range.2 hjs)) i (List.mem_range.2 hij)
        unfold okPair at h3
        simp only [Bool.or_eq_true, Bool.and_eq_true, Array.getElem?_eq_getElem his, Array.getElem?_eq_getElem hjs] at h3
        rcases h3 with h3 | ⟨h3, h4, h5⟩
        · exfalso
          rcases hbehind i (by simpa using h3) with e | e
          · omega
          · simp [Array.getD_eq_getD_getElem?, hs, his] at hun e
            rw [hun] at e; cases e
        · exact ⟨⟨_, _, Array.getElem?_eq_getElem his, Array.getElem?_eq_getElem hjs, h4, h5, fun cs b => hsel i _ cs b (Array.getElem?_eq_getElem his), fun cs b => hsel j _ cs b (Array.getElem?_eq_getElem hjs)⟩, h3, by omega⟩
      have hlst : isQ ops j = false → j + 1 = ops.size → pre = [] ∧ post = [] := by
        intro hq hje
        have hj1 : ops.size - 1 = j := by omega
        rw [hj1, hq, Bool.false_or] at hlast
        have all : ∀ i ∈ left ops listed, i = j := fun i hi => by
          obtain ⟨his, hun⟩ := hunl i hi
          rcases hbehind i (by simpa using List.all_eq_true.1 hlast i (List.mem_range.2 his)) with e | e
          · exact e
          · simp [Array.getD_eq_getD_getElem?, hs, his] at hun e
            rw [hun] at e; cases e
        rw [hL] at all hnd
        have h' := List.nodup_append.1 hnd
        constructor
        · cases pre with
          | nil => rfl
          | cons i pre => exact absurd (all i (by simp)) (h'.2.2 i (by simp) j (by simp))
        · cases post with
          | nil => rfl
          | cons i post =>
            have := all i (by simp)
            subst this
            exact absurd (by simp) (List.nodup_cons.1 h'.2.1).1
      have hbd : ∀ i ∈ pre ++ post, bd ops i j = false := by
        intro i hi
        have him : i ∈ left ops listed := by rw [hL]; rcases List.mem_append.1 hi with h | h <;> simp [h]
        obtain ⟨his, hun⟩ := hunl i him
        cases hb : bd ops i j with
        | false => rfl
        | true =>
          exfalso
          unfold bd at hb
          rcases hbehind i (by simpa using hb) with e | e
          · subst e
            rw [hL] at hnd
            have h' := List.nodup_append.1 hnd
            rcases List.mem_append.1 hi with h | h
            · exact h'.2.2 i h i (by simp) rfl
            · exact (List.nodup_cons.1 h'.2.1).1 h
          · simp [Array.getD_eq_getD_getElem?, hs, his] at hun e
            rw [hun] at e; cases e
      have hset : left ops (listed.setIfInBounds j true) = pre ++ post := by rw [left_set hs hjs]; exact nodup_filter hnd hL
      have hlen : (pre ++ post).length = fuel := by have := hl; rw [hL] at this; simp at this ⊢; omega
      have hcl' := hcl.set hj
      rcases TSn_first hjs pre a w hfree hbd hlst hC h with ⟨_, he, hw⟩ | hw
      · refine wpOp_mono (fun a' w' h' => ih _ a' w' (by simpa using hs) (by rw [hset]; exact hlen) hcl' (fun k hk => ?_) ?_) hw
        · rw [hset, he] at hk; simp at hk
        · rw [hset, he]; exact h'
      · exact wpOp_of_QF (fun a' w' h' => ih _ a' w' (by simpa using hs) (by rw [hset]; exact hlen) hcl' (by rw [hset]; exact h'.1) (by rw [hset]; exact h'.2)) hw
end

section
variable {P : Program} {n : Nat} {ds : List Deferred} {Q : Po} {F : Fr} {ops : List Oper} {C : Nat → World → Prop} {w : World}
/-- The walk in the text's order; k: the place. -/
def Wu (P : Program) (n : Nat) (ds : List Deferred) (C : Nat → World → Prop) (Q : Po) (ops : List Oper) : Nat → List Oper → Fr → World → Prop
  | _, [], F, w => Q .normal F w
  | k, o :: l, F, w => if readB o.op = true then Wq P n ds (C k) (fun F' => Wu P n ds C Q ops (k + 1) l F' w) ops [o] F
    else if l.isEmpty = true then Wl P n ds Q ops [o] F w else Wl P n ds (fun e F' w' => e = .normal ∧ (∀ j, (k < j ∨ bd ops.toArray j k = false) → C j w') ∧ Wu P n ds C Q ops (k + 1) l F' w') ops [o] F w
theorem Wu.nil {k : Nat} (h : Q .normal F w) : Wu P n ds C Q ops k [] F w := h
theorem Wu.quiet {k : Nat} {o : Oper} {l : List Oper} (hr : readB o.op = true) (h : Wq P n ds (C k) (fun F' => Wu P n ds C Q ops (k + 1) l F' w) ops [o] F) : Wu P n ds C Q ops k (o :: l) F w := by
  unfold Wu; rw [if_pos hr]; exact h
theorem Wu.chain {k : Nat} {o o2 : Oper} {l : List Oper} (hr : readB o.op = false) (h : Wl P n ds (fun e F' w' => e = .normal ∧ (∀ j, (k < j ∨ bd ops.toArray j k = false) → C j w') ∧ Wu P n ds C Q ops (k + 1) (o2 :: l) F' w') ops [o] F w) : Wu P n ds C Q ops k (o :: o2 :: l) F w := by
  unfold Wu; rw [if_neg (by rw [hr]; simp), if_neg (by simp)]; exact h
theorem Wu.last {k : Nat} {o : Oper} (hr : readB o.op = false) (h : Wl P n ds Q ops [o] F w) : Wu P n ds C Q ops k [o] F w := by
  unfold Wu; rw [if_neg (by rw [hr]; simp), if_pos List.isEmpty_nil]; exact h
theorem TSn_of_Wu : ∀ (l : List Oper) (k : Nat) (F : Fr) (w : World), (∀ j, l[j]? = ops[k + j]?) → Wu P n ds C Q ops k l F w → TSn P ops.toArray C (QA n ds Q) ((List.range l.length).map (k + ·)) (act n ds F) w
  | [], k, F, w, _, h => ⟨F, rfl, h⟩
  | o :: l, k, F, w, hl, h => by
    have h0 : ops[k]? = some o := by simpa using (hl 0).symm
    have h0' : ops.toArray[k]? = some o := by simpa using h0
    have hl' : ∀ j, l[j]? = ops[k + 1 + j]? := fun j => by have := hl (j + 1); simpa [Nat.add_assoc, Nat.add_comm 1 j] using this
    have e1 : (List.range (o :: l).length).map (k + ·) = k :: (List.range l.length).map (k + 1 + ·) := by
      rw [List.length_cons, List.range_succ_eq_map, List.map_cons, List.map_map, Nat.add_zero]
      congr 1
      apply List.map_congr_left
      intro j _
      show k + (j + 1) = k + 1 + j
      omega
    have hlen : (k + 1 = ops.toArray.size) ↔ l = [] := by
      have h2 := hl' 0
      constructor
      · intro e
        have hz : ops.toArray.size = ops.length := by simp
        have hz2 : ops.length ≤ k + 1 + 0 := by omega
        rw [List.getElem?_eq_none hz2] at h2
        cases l with
        | nil => rfl
        | cons _ _ => simp at h2
      · intro e
        subst e
        have hk := (List.getElem?_eq_some_iff.1 h0).1
        have : ops[k + 1 + 0]? = none := by rw [← h2]; rfl
        have := List.getElem?_eq_none_iff.1 this
        simp; omega
    have hq : isQ ops.toArray k = readB o.op := by unfold isQ; rw [h0']
    rw [e1, TSn, hq]
    unfold Wu at h
    split
    · rename_i hr
      rw [if_pos hr] at h
      unfold Wq at h
      have hst : qOp P ops.toArray (C k) k (fun a => ∃ F', a = act n ds F' ∧ Wu P n ds C Q ops (k + 1) l F' w) (act n ds F) := by unfold qOp; simp only [h0']; exact h
      obtain ⟨v, hy, F', hF, hw⟩ := yieldsIn_of_qOp h0' hst
      refine ⟨o, v, h0', hy, ?_⟩
      rw [hF]
      exact TSn_of_Wu l (k + 1) F' w hl' hw
    · rename_i hr
      rw [if_neg hr] at h
      split
      · rename_i he
        have := hlen.1 he
        subst this
        rw [if_pos List.isEmpty_nil] at h
        exact wpOp_of_Wl h0 h
      · rename_i he
        rw [if_neg (by simpa using fun e => he (hlen.2 e))] at h
        refine wpOp_noQ ?_ ?_ (wpOp_of_Wl h0 h)
        · rintro e a' w' hne ⟨F', _, h', _⟩; exact hne h'
        · rintro a' w' ⟨F', rfl, _, hC, h'⟩
          exact ⟨⟨fun j hj => hC j (.inl (by obtain ⟨m, _, rfl⟩ := List.mem_map.1 hj; omega)), fun j hj => hC j (.inr hj)⟩, TSn_of_Wu l (k + 1) F' w' hl' h'⟩
/-- A region that draws its order, by one walk in the text's order. -/
theorem Wc.regionU {rid : Nat} (hm : P.follows .mixedOrders = true) (hB : okT ops.toArray = true) (C : Nat → World → Prop) (hC : ∀ k, C k w.drew) (h : ∀ w', New w w' → Wu P n ds C Q ops 0 ops F w') : Wc P n ds Q (.region rid ops.toArray true) F w := by
  unfold Wc
  refine wp_region_any hm ?_
  have hleft : left ops.toArray (Array.replicate ops.toArray.size false) = (List.range ops.length).map (0 + ·) := by
    unfold left
    rw [show ((fun x => 0 + x) : Nat → Nat) = id from funext fun x => Nat.zero_add x, List.map_id]
    simp only [List.size_toArray]
    refine List.filter_eq_self.2 fun k hk => ?_
    have := List.mem_range.1 hk
    simp [Array.getD_eq_getD_getElem?, Array.getElem?_replicate, this]
  have h0 : Clos ops.toArray (Array.replicate ops.toArray.size false) := by
    intro j o hj
    exfalso
    simp only [Array.getD_eq_getD_getElem?, Array.getElem?_replicate] at hj
    split at hj <;> simp at hj
  refine wpAny_of_TSn (C := C) hB _ _ _ _ (by simp) (by rw [hleft]; simp) h0 (fun k _ => hC k) ?_
  rw [hleft]
  exact TSn_of_Wu ops 0 F w.drew (fun j => by rw [Nat.zero_add]) (h _ (Chg.drew _ _))
end
/-- What is not bound ahead of an operation stands behind a place. -/
theorem bd_ge {ops : Array Oper} {k c : Nat} (h : (List.range c).all (fun j => bd ops j k) = true) (hc : c ≤ k + 1) {j : Nat} (hj : k < j ∨ bd ops j k = false) : c ≤ j := by
  rcases Nat.lt_or_ge j c with hlt | hge
  · have := List.all_eq_true.1 h j (List.mem_range.2 hlt)
    rcases hj with h1 | h1
    · omega
    · rw [h1] at this; cases this
  · exact hge
attribute [irreducible] Wu
end Go.Proofs.YtjpebmgllfiloaaDoor.Wk
