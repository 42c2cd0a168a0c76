/-
  Texts of this claim, one behind the other: Lex, Ck, La, Row, Del, Ly, Pa, Pb, Pc, Pd, Lz, Cut, Cpy, Sk.
-/
import Derived.Test.YtjpebmgllfiloaaDoorZb
namespace Go.Proofs.YtjpebmgllfiloaaDoor.Wk
open Go Go.RowKit

section
variable {P : Program} {ops : Array Oper} {C : World → Prop} {Q : Exit → Act → World → Prop}
def isQ (ops : Array Oper) (i : Nat) : Bool := match ops[i]? with | some o => readB o.op | none => false
/-- The walk in the text's order, by the operations' numbers. -/
def TS (P : Program) (ops : Array Oper) (C : World → Prop) (Q : Exit → Act → World → Prop) : List Nat → Act → World → Prop
  | [], a, w => Q .normal a w
  | i :: l, a, w => if isQ ops i = true then (∃ o v, ops[i]? = some o ∧ YieldsIn P ops C o v a ∧ TS P ops C Q l (a.put o.dst v) w)
    else if i + 1 = ops.size then wpOp P ops Q i (fun a' w' => Q .normal a' w') a w else wpOp P ops QF i (fun a' w' => C w' ∧ TS P ops C Q l a' w') a w
def wd (a : Act) (ds : List Deferred) : Act := { a with defers := ds }
theorem wd_self (a : Act) : wd a a.defers = a := rfl
theorem wd_put (a : Act) (d : Option Tmp) (v : Value) (ds : List Deferred) : wd (a.put d v) ds = (wd a ds).put d v := by cases d <;> rfl
/-- Two operations that may change places. -/
structure Free (ops : Array Oper) (i j : Nat) : Prop where
  ex : ∃ oi oj, ops[i]? = some oi ∧ ops[j]? = some oj ∧ oi.apart ops oj = true ∧ oj.apart ops oi = true ∧ (∀ cs b, oi.op ≠ .select cs b) ∧ (∀ cs b, oj.op ≠ .select cs b)
  one : isQ ops i = true ∨ isQ ops j = true
  nl : i + 1 ≠ ops.size

theorem yields_unput {oi oj : Oper} {v u : Value} {a : Act} (h : oi.apart ops oj = true) (hs : ∀ cs b, oj.op ≠ .select cs b) : YieldsIn P ops C oj v (a.put oi.dst u) ↔ YieldsIn P ops C oj v a := by
  obtain ⟨h1, _, _⟩ := Oper.apart_spec h
  have e1 := execOp_put oj hs a oi.dst u h1
  have e2 := wanted_put oj a oi.dst u h1
  exact ⟨fun y => y.of_same e1.symm e2.symm, fun y => y.of_same e1 e2⟩
theorem yields_wd {o : Oper} {v : Value} {a : Act} {ds : List Deferred} : YieldsIn P ops C o v (wd a ds) ↔ YieldsIn P ops C o v a := by
  have e : (wd a ds).eval = a.eval := by funext x; cases x <;> rfl
  exact ⟨fun y => y.of_same (by rw [e]) rfl, fun y => y.of_same (by rw [e]) rfl⟩
theorem yields_unique {o : Oper} {v v' : Value} {a : Act} {w : World} (hC : C w) (hr : readB o.op = true) (h : YieldsIn P ops C o v a) (h' : YieldsIn P ops C o v' a) : v = v' := by
  rcases h with ⟨hw, hv⟩ | ⟨hw, rfl⟩ <;> rcases h' with ⟨hw', hv'⟩ | ⟨hw', rfl⟩
  · have h1 := hv w hC
    have h2 := hv' w hC
    have hne := @noEnter P o hr a.eval w
    unfold Oper.quietAt at h1 h2
    generalize (execOp a.eval o).run P w = r at *
    cases r with
    | ok n w' =>
      cases n <;> simp only [Oper.quietUpon] at h1 h2
      case value u => first | exact h1.2.symm.trans h2.2 | exact h1.1.symm.trans h2.1
      case skip => first | exact h1.2.trans h2.2.symm | exact h1.2.symm.trans h2.2
      case enter f args => exact (hne rfl).elim
    | halt x w' => simp only [Oper.quietUpon] at h1
  · rw [hw] at hw'; cases hw'
  · rw [hw] at hw'; cases hw'
  · rfl
/-- A chain operation has an outcome. -/
theorem wpOp_exists {i : Nat} {o : Oper} {K : Act → World → Prop} {a : Act} {w : World} (hi : ops[i]? = some o) (h : wpOp P ops QF i K a w) : ∃ u ds' w', K ((wd a ds').put o.dst u) w' := by
  unfold wpOp at h
  simp only [hi] at h
  split at h
  · rcases h with h | ⟨_, _, _, hq⟩
    · unfold Oper.wp at h
      generalize hr : (execOp a.eval o).run P w = r at h
      cases r with
      | ok nx w' =>
        cases nx with
        | value u => exact ⟨u, a.defers, w', h⟩
        | skip => exact ⟨undef, a.defers, w', h⟩
        | enter f args =>
          obtain ⟨e, w'', fr, he, _⟩ := h []
          cases e with
          | returned u => exact ⟨u, a.defers, w'', he⟩
          | panicked c => exact he.elim
          | outgrown => obtain ⟨_, _, hq⟩ := he; exact hq.elim
        | row r' args =>
          obtain ⟨u, w'', he, _⟩ := h (Frame.enter P 0 #[] .normal) []
          exact ⟨u, a.defers, w'', he⟩
        | defer d => exact ⟨undef, d :: a.defers, w', h⟩
        | _ => exact h.elim
      | halt x w' => cases x <;> exact h.elim
    · exact hq.elim
  · exact ⟨undef, a.defers, w, h⟩
/-- What an operation does is the same where another's slot holds something else. -/
theorem wpOp_reput {i : Nat} {oi oj : Oper} {v : Value} {K K' : Act → World → Prop} {a : Act} {w : World} (hi : ops[i]? = some oi) (hap : oj.apart ops oi = true) (hs : ∀ cs b, oi.op ≠ .select cs b)
    (hK : ∀ u ds' w', K ((wd a ds').put oi.dst u) w' → K' (((wd a ds').put oj.dst v).put oi.dst u) w') (h : wpOp P ops QF i K a w) : wpOp P ops QF i K' (a.put oj.dst v) w := by
  obtain ⟨h1, h2, h3⟩ := Oper.apart_spec hap
  unfold wpOp at *
  simp only [hi] at *
  rw [wanted_put oi a oj.dst v h1]
  split
  · rename_i hw
    simp only [hw, if_true] at h
    rcases h with h | ⟨_, a₀, w₀, hq⟩
    · refine .inl ?_
      unfold Oper.wp at *
      rw [execOp_put oi hs a oj.dst v h1]
      generalize (execOp a.eval oi).run P w = r at *
      cases r with
      | ok nx w' =>
        cases nx with
        | value u => exact hK _ a.defers _ h
        | skip => exact hK _ a.defers _ h
        | enter f args => exact Calls.mono h (fun e w'' he => by cases e with | returned u => exact hK _ a.defers _ he | panicked c => exact he.elim | outgrown => obtain ⟨a₀, w₀, hq⟩ := he; exact hq.elim)
        | row r' args => exact Rows.mono h (fun _ _ he => hK _ a.defers _ he)
        | defer d =>
          have := hK undef (d :: a.defers) _ h
          rw [← wd_put a oj.dst v] at this
          have e : (a.put oj.dst v).defers = a.defers := by cases oj.dst <;> rfl
          simp only [Oper.upon, e]
          exact this
        | _ => exact h.elim
      | halt x w' => cases x <;> exact h.elim
    · exact hq.elim
  · rename_i hw
    simp only [hw] at h
    exact hK _ a.defers _ h

theorem TS_quiet {j : Nat} {oj : Oper} {post : List Nat} (hj : ops[j]? = some oj) (hq : isQ ops j = true) : ∀ (pre : List Nat) (a : Act) (w : World), (∀ i ∈ pre, Free ops i j) → C w → TS P ops C Q (pre ++ j :: post) a w →
    ∃ v, YieldsIn P ops C oj v a ∧ TS P ops C Q (pre ++ post) (a.put oj.dst v) w
  | [], a, w, _, _, h => by
    rw [List.nil_append, TS, if_pos hq] at h
    obtain ⟨o, v, ho, hy, ht⟩ := h
    rw [hj] at ho
    cases ho
    exact ⟨v, hy, ht⟩
  | i :: pre, a, w, hf, hC, h => by
    obtain ⟨⟨oi, oj', hi, hj', h1, h2, s1, s2⟩, _, hnl⟩ := hf i (by simp)
    rw [hj] at hj'
    cases hj'
    have hrj : readB oj.op = true := by unfold isQ at hq; rw [hj] at hq; exact hq
    obtain ⟨_, hne, _⟩ := Oper.apart_spec h1
    rw [List.cons_append, TS] at h
    by_cases hqi : isQ ops i = true
    · rw [if_pos hqi] at h
      obtain ⟨o, vi, ho, hy, ht⟩ := h
      rw [hi] at ho
      cases ho
      obtain ⟨v, hyv, hts⟩ := TS_quiet hj hq pre _ w (fun k hk => hf k (by simp [hk])) hC ht
      refine ⟨v, (yields_unput h1 s2).1 hyv, ?_⟩
      rw [List.cons_append, TS, if_pos hqi]
      refine ⟨oi, vi, hi, (yields_unput h2 s1).2 hy, ?_⟩
      rw [← Act.put_comm a vi v hne]
      exact hts
    · rw [if_neg hqi, if_neg hnl] at h
      obtain ⟨u, ds', w', hC', ht'⟩ := wpOp_exists hi h
      obtain ⟨v, hyv, _⟩ := TS_quiet hj hq pre _ w' (fun k hk => hf k (by simp [hk])) hC' ht'
      have hya := yields_wd.1 ((yields_unput h1 s2).1 hyv)
      have key : wpOp P ops QF i (fun a' w' => C w' ∧ TS P ops C Q (pre ++ post) a' w') (a.put oj.dst v) w := by
        refine wpOp_reput hi h2 s1 ?_ h
        rintro u' ds1 w1 ⟨hC1, ht1⟩
        obtain ⟨v1, hy1, hts1⟩ := TS_quiet hj hq pre _ w1 (fun k hk => hf k (by simp [hk])) hC1 ht1
        have : v1 = v := yields_unique hC1 hrj (yields_wd.1 ((yields_unput h1 s2).1 hy1)) hya
        subst this
        refine ⟨hC1, ?_⟩
        rw [← Act.put_comm (wd a ds1) u' v1 hne]
        exact hts1
      refine ⟨v, hya, ?_⟩
      rw [List.cons_append, TS, if_neg hqi, if_neg hnl]
      exact key
/-- An operation that may come up now may be taken first. -/
theorem TS_first {j : Nat} {post : List Nat} (hjn : j < ops.size) : ∀ (pre : List Nat) (a : Act) (w : World), (∀ i ∈ pre, Free ops i j) → (isQ ops j = false → j + 1 = ops.size → pre = [] ∧ post = []) → C w → TS P ops C Q (pre ++ j :: post) a w →
    (isQ ops j = false ∧ pre ++ post = [] ∧ wpOp P ops Q j (fun a' w' => Q .normal a' w') a w) ∨ wpOp P ops QF j (fun a' w' => C w' ∧ TS P ops C Q (pre ++ post) a' w') a w := by
  intro pre a w hf hlast hC h
  obtain ⟨oj, hj⟩ : ∃ oj, ops[j]? = some oj := ⟨ops[j], Array.getElem?_eq_getElem hjn⟩
  cases hq : isQ ops j with
  | true =>
    obtain ⟨v, hy, ht⟩ := TS_quiet hj hq pre a w hf hC h
    have hrj : readB oj.op = true := by unfold isQ at hq; rw [hj] at hq; exact hq
    exact .inr (YieldsS.wpOp hj hy hrj hC ⟨hC, ht⟩)
  | false =>
    have hl := hlast hq
    clear hlast
    by_cases hpost : j + 1 = ops.size
    · obtain ⟨rfl, rfl⟩ := hl hpost
      rw [List.nil_append, TS, if_neg (by rw [hq]; simp), if_pos hpost] at h
      exact .inl ⟨rfl, rfl, h⟩
    · right
      clear hl
      induction pre generalizing a with
      | nil =>
        rw [List.nil_append, TS, if_neg (by rw [hq]; simp), if_neg hpost] at h
        exact h
      | cons i pre ih =>
        obtain ⟨⟨oi, oj', hi, hj', h1, h2, s1, s2⟩, hone, _⟩ := hf i (by simp)
        rw [hj] at hj'
        cases hj'
        have hqi : isQ ops i = true := by rcases hone with h | h; exact h; rw [hq] at h; cases h
        rw [List.cons_append, TS, if_pos hqi] at h
        obtain ⟨o, vi, ho, hy, ht⟩ := h
        rw [hi] at ho
        cases ho
        have := ih _ (fun k hk => hf k (by simp [hk])) ht
        refine wpOp_mono (fun a' w' h' => ?_) (wpOp_put hj h1 s1 s2 hy this)
        obtain ⟨hy', hC', ht'⟩ := h'
        refine ⟨hC', ?_⟩
        rw [List.cons_append, TS, if_pos hqi]
        exact ⟨oi, vi, hi, hy', ht'⟩

/-! All that must come ahead of an operation. -/
def okPair (ops : Array Oper) (i j : Nat) : Bool := (ahead ops ops.size [j]).contains i ||
  ((isQ ops i || isQ ops j) && match ops[i]?, ops[j]? with | some oi, some oj => oi.apart ops oj && oj.apart ops oi | _, _ => false)
def okT (ops : Array Oper) : Bool :=
  Region.noSelect ops && (List.range ops.size).all (fun j => (List.range j).all fun i => okPair ops i j) &&
  (List.range ops.size).all (fun j => match ops[j]? with | some o => o.after.all fun e => !Region.binds .any e || decide (e.on < j) | none => true) &&
  (isQ ops (ops.size - 1) || (List.range ops.size).all fun k => (ahead ops ops.size [ops.size - 1]).contains k)
def left (ops : Array Oper) (listed : Array Bool) : List Nat := (List.range ops.size).filter fun i => !listed.getD i true
theorem left_set {listed : Array Bool} {i : Nat} (hs : listed.size = ops.size) (hi : i < ops.size) : left ops (listed.setIfInBounds i true) = (left ops listed).filter (fun k => k != i) := by
  unfold left
  rw [List.filter_filter]
  apply List.filter_congr
  intro k hk
  by_cases hki : k = i
  · subst hki
    simp [Array.getD_eq_getD_getElem?, hs, hi]
  · have h1 := getD_set_ne (listed := listed) (i := i) (j := k) true (Ne.symm hki)
    rw [h1]
    simp [hki]
theorem nodup_filter {l pre post : List Nat} {i : Nat} (h : l.Nodup) (e : l = pre ++ i :: post) : l.filter (fun k => k != i) = pre ++ post := by
  subst e
  have h' := List.nodup_append.1 h
  have hi : i ∉ post := (List.nodup_cons.1 h'.2.1).1
  have hp : i ∉ pre := fun hm => h'.2.2 i hm i (by simp) rfl
  rw [List.filter_append, List.filter_cons, if_neg (by simp)]
  congr 1
  · refine List.filter_eq_self.2 fun k hk => ?_
    have : k ≠ i := fun e => hp (by rw [← e]; exact hk)
    simpa using this
  · refine List.filter_eq_self.2 fun k hk => ?_
    have : k ≠ i := fun e => hi (by rw [← e]; exact hk)
    simpa using this
theorem wpAny_of_TS (hok : okT ops = true) : ∀ (fuel : Nat) (listed : Array Bool) (a : Act) (w : World), listed.size = ops.size → (left ops listed).length = fuel → Clos ops listed → (fuel ≠ 0 → C w) → TS P ops C Q (left ops listed) a w → wpAny P .any ops Q fuel listed a w := by
  simp only [okT, Bool.and_eq_true] at hok
  obtain ⟨⟨⟨hns, hpair⟩, hdown⟩, hlast⟩ := hok
  have hsel := Region.noSelect_spec hns
  have rdy : ∀ listed : Array Bool, listed.size = ops.size → ∀ i, i ∈ Region.ready .any ops listed → i ∈ left ops listed := by
    intro listed hs i hi
    obtain ⟨h0, o, ho, _⟩ := mem_ready.1 hi
    unfold left
    rw [List.mem_filter, List.mem_range]
    exact ⟨(Array.getElem?_eq_some_iff.1 ho).1, by simp [h0]⟩
  intro fuel
  induction fuel with
  | zero =>
    intro listed a w hs hl hcl hC h
    have hnil : left ops listed = [] := List.eq_nil_of_length_eq_zero hl
    rw [hnil] at h
    refine ⟨?_, h⟩
    rw [List.eq_nil_iff_forall_not_mem]
    intro i hi
    have := rdy listed hs i hi
    rw [hnil] at this
    cases this
  | succ fuel ih =>
    intro listed a w hs hl hcl hC h
    replace hC := hC (by simp)
    refine ⟨fun h0 => ?_, fun j hj => ?_⟩
    · exfalso
      cases hL : left ops listed with
      | nil => rw [hL] at hl; cases hl
      | cons i l =>
        have hmem : i ∈ left ops listed := by rw [hL]; simp
        have hmem' := hmem
        unfold left at hmem
        rw [List.mem_filter, List.mem_range] at hmem
        have hall : ∀ k, k < i → listed.getD k false = true := by
          intro k hk
          have hks : k < ops.size := by omega
          cases hb : listed.getD k true with
          | true => simpa [Array.getD_eq_getD_getElem?, hs, hks] using hb
          | false =>
            have hkm : k ∈ left ops listed := by unfold left; rw [List.mem_filter, List.mem_range]; exact ⟨hks, by simp [hb]⟩
            have hsort : (left ops listed).Pairwise (· < ·) := List.Pairwise.sublist List.filter_sublist List.pairwise_lt_range
            rw [hL] at hkm hsort
            rcases List.mem_cons.1 hkm with e | e
            · omega
            · have := (List.pairwise_cons.1 hsort).1 k e; omega
        have : i ∈ Region.ready .any ops listed := by
          refine mem_ready.2 ⟨by simpa using hmem.2, ops[i], Array.getElem?_eq_getElem hmem.1, fun e he hb => ?_⟩
          have h3 := List.all_eq_true.1 hdown i (List.mem_range.2 hmem.1)
          rw [Array.getElem?_eq_getElem hmem.1] at h3
          have h4 := Array.all_eq_true'.1 h3 e he
          rw [hb] at h4
          exact hall e.on (by simpa using h4)
        rw [h0] at this
        cases this
    · obtain ⟨pre, post, hL⟩ := List.append_of_mem (rdy listed hs j hj)
      rw [hL] at h
      obtain ⟨_, oj, hoj, _⟩ := mem_ready.1 hj
      have hjs : j < ops.size := (Array.getElem?_eq_some_iff.1 hoj).1
      have hnd : (left ops listed).Nodup := List.Nodup.sublist List.filter_sublist List.nodup_range
      have hsort : (left ops listed).Pairwise (· < ·) := List.Pairwise.sublist List.filter_sublist List.pairwise_lt_range
      have hunl : ∀ i ∈ left ops listed, i < ops.size ∧ listed.getD i true = false := fun i hi => by
        unfold left at hi
        rw [List.mem_filter, List.mem_range] at hi
        exact ⟨hi.1, by simpa using hi.2⟩
      have hbehind : ∀ k, k ∈ ahead ops ops.size [j] → k = j ∨ listed.getD k false = true := ahead_spec hcl hj _ _ (by simp)
      have hfree : ∀ i ∈ pre, Free ops i j := by
        intro i hi
        have him : i ∈ left ops listed := by rw [hL]; simp [hi]
        obtain ⟨his, hun⟩ := hunl i him
        have hij : i < j := by rw [hL] at hsort; exact (List.pairwise_append.1 hsort).2.2 i hi j (by simp)
        have h3 := List.all_eq_true.1 (List.all_eq_true.1 hpair j (List.mem_range.2 hjs)) i (List.mem_range.2 hij)
        unfold okPair at h3
        simp only [Bool.or_eq_true, Bool.and_eq_true, Array.getElem?_eq_getElem his, Array.getElem?_eq_getElem hjs] at h3
        rcases h3 with h3 | ⟨h3, h4, h5⟩
        · exfalso
          rcases hbehind i (by simpa using h3) with e | e
          · omega
          · simp [Array.getD_eq_getD_getElem?, hs, his] at hun e
            rw [hun] at e; cases e
        · exact ⟨⟨_, _, Array.getElem?_eq_getElem his, Array.getElem?_eq_getElem hjs, h4, h5, fun cs b => hsel i _ cs b (Array.getElem?_eq_getElem his), fun cs b => hsel j _ cs b (Array.getElem?_eq_getElem hjs)⟩, h3, by omega⟩
      have hlst : isQ ops j = false → j + 1 = ops.size → pre = [] ∧ post = [] := by
        intro hq hje
        have hj1 : ops.size - 1 = j := by omega
        rw [hj1, hq, Bool.false_or] at hlast
        have all : ∀ i ∈ left ops listed, i = j := fun i hi => by
          obtain ⟨his, hun⟩ := hunl i hi
          rcases hbehind i (by simpa using List.all_eq_true.1 hlast i (List.mem_range.2 his)) with e | e
          · exact e
          · simp [Array.getD_eq_getD_getElem?, hs, his] at hun e
            rw [hun] at e; cases e
        rw [hL] at all hnd
        have h' := List.nodup_append.1 hnd
        constructor
        · cases pre with
          | nil => rfl
          | cons i pre => exact absurd (all i (by simp)) (h'.2.2 i (by simp) j (by simp))
        · cases post with
          | nil => rfl
          | cons i post =>
            have := all i (by simp)
            subst this
            exact absurd (by simp) (List.nodup_cons.1 h'.2.1).1
      have hset : left ops (listed.setIfInBounds j true) = pre ++ post := by rw [left_set hs hjs]; exact nodup_filter hnd hL
      have hlen : (pre ++ post).length = fuel := by have := hl; rw [hL] at this; simp at this ⊢; omega
      have hcl' := hcl.set hj
      rcases TS_first hjs pre a w hfree hlst hC h with ⟨_, he, hw⟩ | hw
      · refine wpOp_mono (fun a' w' h' => ih _ a' w' (by simpa using hs) (by rw [hset]; exact hlen) hcl' (fun hne => ?_) ?_) hw
        · rw [he] at hlen; exact absurd hlen.symm hne
        · rw [hset, he]; exact h'
      · exact wpOp_of_QF (fun a' w' h' => ih _ a' w' (by simpa using hs) (by rw [hset]; exact hlen) hcl' (fun _ => h'.1) (by rw [hset]; exact h'.2)) hw
end

section
variable {P : Program} {n : Nat} {ds : List Deferred} {Q : Po} {F : Fr} {ops : List Oper} {C : World → Prop} {w : World}
/-- The walk in the text's order: what only reads holds in every world of the class; each other operation but the last leaves a world of the class. -/
def Wt (P : Program) (n : Nat) (ds : List Deferred) (C : World → Prop) (Q : Po) (ops : List Oper) : List Oper → Fr → World → Prop
  | [], F, w => Q .normal F w
  | o :: l, F, w => if readB o.op = true then Wq P n ds C (fun F' => Wt P n ds C Q ops l F' w) ops [o] F
    else if l.isEmpty = true then Wl P n ds Q ops [o] F w else Wl P n ds (fun e F' w' => e = .normal ∧ C w' ∧ Wt P n ds C Q ops l F' w') ops [o] F w
theorem Wt.nil (h : Q .normal F w) : Wt P n ds C Q ops [] F w := h
theorem Wt.quiet {o : Oper} {l : List Oper} (hr : readB o.op = true) (h : Wq P n ds C (fun F' => Wt P n ds C Q ops l F' w) ops [o] F) : Wt P n ds C Q ops (o :: l) F w := by
  unfold Wt; rw [if_pos hr]; exact h
theorem Wt.chain {o o2 : Oper} {l : List Oper} (hr : readB o.op = false) (h : Wl P n ds (fun e F' w' => e = .normal ∧ C w' ∧ Wt P n ds C Q ops (o2 :: l) F' w') ops [o] F w) : Wt P n ds C Q ops (o :: o2 :: l) F w := by
  unfold Wt; rw [if_neg (by rw [hr]; simp), if_neg (by simp)]; exact h
theorem Wt.last {o : Oper} (hr : readB o.op = false) (h : Wl P n ds Q ops [o] F w) : Wt P n ds C Q ops [o] F w := by
  unfold Wt; rw [if_neg (by rw [hr]; simp), if_pos List.isEmpty_nil]; exact h
theorem Wt.guardY {o : Oper} {l : List Oper} {j : Nat} {b : Bool} (hg : o.guard = some (j, b)) (hy : yld ops n F j = some b) (h : Wt P n ds C Q ops ({ o with guard := none } :: l) F w) : Wt P n ds C Q ops (o :: l) F w := by
  unfold Wt at h ⊢
  split
  · rename_i hr
    rw [if_pos hr] at h
    exact Wq.guardY hg hy h
  · rename_i hr
    rw [if_neg hr] at h
    split
    · rename_i he; rw [if_pos he] at h; exact Wl.guardY hg hy h
    · rename_i he; rw [if_neg he] at h; exact Wl.guardY hg hy h
theorem Wt.guardN {op : Op} {d : Nat} {ty : TypeId} {pos : String} {aft : Array Edge} {l : List Oper} {j : Nat} {b c : Bool} (hy : yld ops n F j = some c) (hbc : (c == b) = false) (hC : C w) (h : Wt P n ds C Q ops l (upd F d undef) w) :
    Wt P n ds C Q ops (⟨some d, op, ty, pos, aft, some (j, b)⟩ :: l) F w := by
  unfold Wt
  split
  · exact Wq.guardN hy hbc (Wq.nil h)
  · split
    · rename_i he
      have : l = [] := by simpa using he
      subst this
      unfold Wt at h
      exact Wl.guardN hy hbc (Wl.nil h)
    · exact Wl.guardN hy hbc (Wl.nil ⟨rfl, hC, h⟩)
theorem TS_of_Wt : ∀ (l : List Oper) (k : Nat) (F : Fr) (w : World), (∀ j, l[j]? = ops[k + j]?) → Wt P n ds C Q ops l F w → TS P ops.toArray C (QA n ds Q) ((List.range l.length).map (k + ·)) (act n ds F) w
  | [], k, F, w, _, h => ⟨F, rfl, h⟩
  | o :: l, k, F, w, hl, h => by
    have h0 : ops[k]? = some o := by simpa using (hl 0).symm
    have h0' : ops.toArray[k]? = some o := by simpa using h0
    have hl' : ∀ j, l[j]? = ops[k + 1 + j]? := fun j => by have := hl (j + 1); simpa [Nat.add_assoc, Nat.add_comm 1 j] using this
    have e1 : (List.range (o :: l).length).map (k + ·) = k :: (List.range l.length).map (k + 1 + ·) := by
      rw [List.length_cons, List.range_succ_eq_map, List.map_cons, List.map_map, Nat.add_zero]
      congr 1
      apply List.map_congr_left
      intro j _
      show k + (j + 1) = k + 1 + j
      omega
    have hlen : (k + 1 = ops.toArray.size) ↔ l = [] := by
      have h2 := hl' 0
      constructor
      · intro e
        have hz : ops.toArray.size = ops.length := by simp
        have hz2 : ops.length ≤ k + 1 + 0 := by omega
        rw [List.getElem?_eq_none hz2] at h2
        cases l with
        | nil => rfl
        | cons _ _ => simp at h2
      · intro e
        subst e
        have hk := (List.getElem?_eq_some_iff.1 h0).1
        have : ops[k + 1 + 0]? = none := by rw [← h2]; rfl
        have := List.getElem?_eq_none_iff.1 this
        simp; omega
    have hq : isQ ops.toArray k = readB o.op := by unfold isQ; rw [h0']
    rw [e1, TS, hq]
    unfold Wt at h
    split
    · rename_i hr
      rw [if_pos hr] at h
      unfold Wq at h
      have hst : qOp P ops.toArray C k (fun a => ∃ F', a = act n ds F' ∧ Wt P n ds C Q ops l F' w) (act n ds F) := by unfold qOp; simp only [h0']; exact h
      obtain ⟨v, hy, F', hF, hw⟩ := yieldsIn_of_qOp h0' hst
      refine ⟨o, v, h0', hy, ?_⟩
      rw [hF]
      exact TS_of_Wt l (k + 1) F' w hl' hw
    · rename_i hr
      rw [if_neg hr] at h
      split
      · rename_i he
        have := hlen.1 he
        subst this
        rw [if_pos List.isEmpty_nil] at h
        exact wpOp_of_Wl h0 h
      · rename_i he
        rw [if_neg (by simpa using fun e => he (hlen.2 e))] at h
        refine wpOp_noQ ?_ ?_ (wpOp_of_Wl h0 h)
        · rintro e a' w' hne ⟨F', _, h', _⟩; exact hne h'
        · rintro a' w' ⟨F', rfl, _, hC, h'⟩
          exact ⟨hC, TS_of_Wt l (k + 1) F' w' hl' h'⟩
/-- A region that draws its order, by one walk in the text's order. -/
theorem Wc.regionT {rid : Nat} (hm : P.follows .mixedOrders = true) (hB : okT ops.toArray = true) (C : World → Prop) (hC : C w.drew) (h : ∀ w', New w w' → Wt P n ds C Q ops ops F w') : Wc P n ds Q (.region rid ops.toArray true) F w := by
  unfold Wc
  refine wp_region_any hm ?_
  have hleft : left ops.toArray (Array.replicate ops.toArray.size false) = (List.range ops.length).map (0 + ·) := by
    unfold left
    rw [show ((fun x => 0 + x) : Nat → Nat) = id from funext fun x => Nat.zero_add x, List.map_id]
    simp only [List.size_toArray]
    refine List.filter_eq_self.2 fun k hk => ?_
    have := List.mem_range.1 hk
    simp [Array.getD_eq_getD_getElem?, Array.getElem?_replicate, this]
  have h0 : Clos ops.toArray (Array.replicate ops.toArray.size false) := by
    intro j o hj
    exfalso
    simp only [Array.getD_eq_getD_getElem?, Array.getElem?_replicate] at hj
    split at hj <;> simp at hj
  refine wpAny_of_TS (C := C) hB _ _ _ _ (by simp) (by rw [hleft]; simp) h0 (fun _ => hC) ?_
  rw [hleft]
  exact TS_of_Wt ops 0 F w.drew (fun j => by rw [Nat.zero_add]) (h _ (Chg.drew _ _))
end
attribute [irreducible] Wt
end Go.Proofs.YtjpebmgllfiloaaDoor.Wk

namespace Go.Proofs.YtjpebmgllfiloaaDoor
open Go Wk
open Go.RowKit (Below)
attribute [local irreducible] Go.Calls

/-- A piece by value. -/
structure Pc where
  target : List UInt8
  nodes : List Nd
  drop : List (List UInt8)
def dropGo (ps : List Pr) (seen : List (List UInt8)) : List (List UInt8) → Bool
  | [] => true
  | s :: r => nameOk s && (!seen.contains s && (!ps.any (fun y => decide (y.1 = s)) && dropGo ps (seen ++ [s]) r))
def pieceOk (p : Pc) : Bool := treeOk p.nodes && (decide (p.drop.length ≤ 32) && dropGo (match p.nodes with | x :: _ => x.props | [] => []) [] p.drop)
def pieceE (p : Pc) : Int := if pieceOk p = true then 0 else 50
structure RdPc (Pb : Nat → Prop) (w : World) (cs : List Value) (p : Pc) : Prop where
  ex : ∃ nv dv, cs = [vs p.target, nv, dv] ∧ RdS rNd 3 Pb w nv p.nodes ∧ RdS (one vs) 1 Pb w dv p.drop
set_option maxHeartbeats 2000000 in
set_option maxRecDepth 4000 in
theorem CheckP_spec {Pb : Nat → Prop} {w : World} {nv dv : Value} {p : Pc} (hn : RdS rNd 3 Pb w nv p.nodes) (hd : RdS (one vs) 1 Pb w dv p.drop) :
    Calls Tryd.prog 13 #[.agg #[vs p.target, nv, dv]] w (Ret fun r w' => r = vi (pieceE p) ∧ New w w') := by
  obtain ⟨na, nc, rfl, _, _⟩ := hn.form
  obtain ⟨da, dc, rfl, hdc1, hdc2⟩ := hd.form
  simp only [maxLen] at hdc2
  refine calls_of_Wc Tryd.func13 rfl Tryd.ntmps13 rfl ?_
  unfold pieceE pieceOk
  (repeat' (first | refine Wc.seq ?_ | refine Wc.region ?_))
  refine Wl.box rfl fun w1 b1 n1 s1 => ?_
  replace b1 : Bk w1 w.heap.size 25 [vs p.target, .slice na p.nodes.length nc, .slice da p.drop.length dc] := b1
  (repeat' (first | refine Wl.assignE (by conv => { lhs; whnf }) ?_ | refine Wl.nil ?_ | refine Qseq.normal ?_ | refine Wc.seq ?_ | refine Wc.region ?_ | refine Wl.fieldAddr rfl rfl ?_))
  refine Wl.load1 rfl (b1.cell (o := 1) rfl) ?_
  refine Wl.call (may_spec (hn.keep stableNd n1.keep)) rfl ?_
  rintro _ w2 ⟨rfl, n2⟩
  have b2 := b1.chg n2 id
  replace n2 := New.trans n1 n2
  cases hok : treeOk p.nodes with
  | false =>
    rw [Bool.false_and, if_neg (by simp)]
    (repeat' (first | refine Wl.moveE (by conv => { lhs; whnf }) ?_ | refine Wl.assignE (by conv => { lhs; whnf }) ?_ | refine Wl.nil ?_ | refine Wl.guardN rfl rfl ?_ | refine Wl.pickTE rfl (by conv => { lhs; whnf }) ?_ | refine Wl.notB rfl ?_ | refine Qseq.normal ?_ | refine Wc.seq ?_ | refine Wc.region ?_ | refine Wc.ret ?_ | refine Qseq.ret ?_ | refine Wc.condT rfl ?_))
    exact Qfn.ret1 rfl rfl ⟨_, rfl, rfl, n2⟩
  | true =>
    rw [Bool.true_and]
    (repeat' (first | refine Wl.moveE (by conv => { lhs; whnf }) ?_ | refine Wl.guardY rfl rfl ?_ | refine Wl.notB rfl ?_ | refine Wl.fieldAddr rfl rfl ?_))
    refine Wl.load1 rfl (b2.cell (o := 2) rfl) ?_
    (repeat' (first | refine Wl.assignE (by conv => { lhs; whnf }) ?_ | refine Wl.nil ?_ | refine Wl.guardY rfl rfl ?_ | refine Wl.pickFE rfl (by conv => { lhs; whnf }) ?_ | refine Wl.lenS rfl ?_ | refine Qseq.normal ?_ | refine Wc.seq ?_ | refine Wc.region ?_ | refine Wc.skip ?_ | refine Wc.ret ?_ | refine Qseq.ret ?_ | refine Wc.condT rfl ?_ | refine Wc.condF rfl ?_ | refine Wl.fieldAddr rfl rfl ?_ | refine Wl.gtr rfl rfl (fun _ => ?_) (fun _ => ?_)))
    · rw [decide_eq_false (by omega), Bool.false_and, if_neg (by simp)]
      exact Qfn.ret1 rfl rfl ⟨_, rfl, rfl, n2⟩
    · rw [decide_eq_true (by omega), Bool.true_and]
      refine Wl.load1 rfl (b2.cell (o := 2) rfl) ?_
      obtain ⟨x0, hx0⟩ := get_lt p.nodes (k := 0) (treeOk_pos hok)
      have hm : (match p.nodes with | x :: _ => x.props | [] => []) = x0.props := by
        cases hpn : p.nodes with
        | nil => rw [hpn] at hx0; cases hx0
        | cons y r => rw [hpn] at hx0; simp at hx0; rw [hx0]
      rw [hm]
      (repeat' (first | refine Wl.moveE (by conv => { lhs; whnf }) ?_ | refine Wl.nil ?_ | refine Wl.lenS rfl ?_ | refine Qseq.normal ?_ | refine Wc.block ?_))
      refine Wc.loop (σ := Nat) (fun i => [(1, ptrV w.heap.size), (16, .slice da p.drop.length dc), (17, vi p.drop.length), (18, vi i)]) (fun i w' => i ≤ p.drop.length ∧ dropGo x0.props [] p.drop = dropGo x0.props (p.drop.take i) (p.drop.drop i) ∧ Bk w' w.heap.size 25 [vs p.target, .slice na p.nodes.length nc, .slice da p.drop.length dc] ∧ New w w') (fun i => p.drop.length - i) 0 ⟨rfl, rfl, rfl, rfl, trivial⟩ ⟨Nat.zero_le _, rfl, b2, n2⟩ ?_
      rintro i G w3 ⟨hi, hgo, b3, n3⟩
      simp only [upds]
      (repeat' (first | refine Wl.moveE (by conv => { lhs; whnf }) ?_ | refine Wl.assignE (by conv => { lhs; whnf }) ?_ | refine Wl.nil ?_ | refine Qseq.normal ?_ | refine Wc.seq ?_ | refine Wc.region ?_ | refine Wc.block ?_ | refine Wc.skip ?_ | refine Wc.exit ?_ | refine Wc.ret ?_ | refine Qseq.exit ?_ | refine Qblk.hit ?_ | refine Qloop.exit ?_ | refine Wc.condT rfl ?_ | refine Wc.condF rfl ?_ | refine Wl.lss rfl rfl (fun _ => ?_) (fun _ => ?_)))
      · obtain ⟨s, hs⟩ := get_lt p.drop (k := i) (by omega)
        refine Wl.idxAddrV (hd.keep (stable_one _) n3.keep) rfl rfl (by omega) hs fun b o hc => ?_
        refine Wl.load1 rfl hc ?_
        rw [drop_cons hs] at hgo
        simp only [dropGo] at hgo
        (repeat' (first | refine Wl.assignE (by conv => { lhs; whnf }) ?_ | refine Wl.nil ?_ | refine Qseq.normal ?_ | refine Wc.seq ?_))
        refine Wc.regionT rfl (by kernel_rfl) (New w3) (Chg.drew _ _) ?_
        intro w4 n4
        (repeat' (refine Wt.quiet rfl (Wq.moveE (by conv => { lhs; whnf }) (Wq.nil ?_))))
        refine Wt.chain rfl (Wl.call (Name_spec (s := s)) rfl ?_)
        rintro _ w5 ⟨rfl, n5⟩
        have n35 := New.trans n4 n5
        refine Wl.nil ⟨rfl, n35, ?_⟩
        (repeat' (first | refine Wt.nil ?_ | refine Wt.guardY rfl rfl ?_ | refine Wt.guardN rfl rfl (by assumption) ?_ | refine Wt.quiet rfl (Wq.moveE (by conv => { lhs; whnf }) (Wq.nil ?_)) | refine Wt.quiet rfl (Wq.pickTE rfl (by conv => { lhs; whnf }) (Wq.nil ?_)) | refine Wt.quiet rfl (Wq.fieldAddr rfl rfl (Wq.nil ?_)) | refine Wt.quiet rfl (Wq.neq rfl rfl (fun _ => Wq.nil ?_) (fun _ => Wq.nil ?_))))
        · (repeat' (first | refine Wl.assignE (by conv => { lhs; whnf }) ?_ | refine Wl.nil ?_ | refine Qseq.normal ?_ | refine Wc.seq ?_ | refine Wc.region ?_ | refine Wc.ret ?_ | refine Qseq.ret ?_ | refine Qblk.ret ?_ | refine Qloop.ret ?_ | refine Wc.condT rfl ?_))
          rw [hgo, nameNo_bad (by assumption), Bool.false_and, if_neg (by simp)]
          exact Qfn.ret1 rfl rfl ⟨_, rfl, rfl, New.trans n3 n35⟩
        · have hnm := nameNo_ok (by assumption)
          rw [hnm, Bool.true_and] at hgo
          refine Wt.quiet rfl (Wq.load1 rfl (fun w' hw => (b3.chg hw id).cell (o := 2) rfl) (Wq.nil ?_))
          (repeat' (first | refine Wt.guardY rfl rfl ?_ | refine Wt.quiet rfl (Wq.moveE (by conv => { lhs; whnf }) (Wq.nil ?_))))
          refine Wt.quiet rfl (Wq.sliceTo (hd.keep (stable_one _) n3.keep) rfl rfl (by omega) (by omega) fun v' hv' => Wq.nil ?_)
          rw [Int.toNat_natCast] at hv'
          (repeat' (first | refine Wt.guardY rfl rfl ?_ | refine Wt.quiet rfl (Wq.moveE (by conv => { lhs; whnf }) (Wq.nil ?_))))
          refine Wt.chain rfl (Wl.call (ContainsStr_spec (s := s) (hv'.keep (stable_one _) n35.keep)) rfl ?_)
          rintro _ w6 ⟨rfl, n6⟩
          have n36 := New.trans n35 n6
          refine Wl.nil ⟨rfl, n36, ?_⟩
          cases hcon : (p.drop.take i).contains s with
          | true =>
            (repeat' (first | refine Wt.nil ?_ | refine Wt.guardN rfl rfl (by assumption) ?_ | refine Wt.quiet rfl (Wq.moveE (by conv => { lhs; whnf }) (Wq.nil ?_)) | refine Wt.quiet rfl (Wq.pickTE rfl (by conv => { lhs; whnf }) (Wq.nil ?_)) | refine Wt.quiet rfl (Wq.pickFE rfl (by conv => { lhs; whnf }) (Wq.nil ?_))))
            (repeat' (first | refine Wl.assignE (by conv => { lhs; whnf }) ?_ | refine Wl.nil ?_ | refine Qseq.normal ?_ | refine Wc.seq ?_ | refine Wc.region ?_ | refine Wc.ret ?_ | refine Qseq.ret ?_ | refine Qblk.ret ?_ | refine Qloop.ret ?_ | refine Wc.condT rfl ?_))
            rw [hgo, hcon, Bool.not_true, Bool.false_and, if_neg (by simp)]
            exact Qfn.ret1 rfl rfl ⟨_, rfl, rfl, New.trans n3 n36⟩
          | false =>
            rw [hcon, Bool.not_false, Bool.true_and] at hgo
            (repeat' (first | refine Wt.guardY rfl rfl ?_ | refine Wt.quiet rfl (Wq.moveE (by conv => { lhs; whnf }) (Wq.nil ?_)) | refine Wt.quiet rfl (Wq.pickFE rfl (by conv => { lhs; whnf }) (Wq.nil ?_)) | refine Wt.quiet rfl (Wq.fieldAddr rfl rfl (Wq.nil ?_))))
            refine Wt.quiet rfl (Wq.load1 rfl (fun w' hw => (b3.chg hw id).cell (o := 1) rfl) (Wq.nil ?_))
            (repeat' (refine Wt.guardY rfl rfl ?_))
            refine Wt.quiet rfl (Wq.idxAddr (hn.keep stableNd n3.keep) (fun w' hw => hw.keep) rfl rfl (by omega) hx0 fun b2 o2 cs hl hR hat => Wq.nil ?_)
            obtain ⟨pv, rfl, hpr⟩ := hR
            (repeat' (first | refine Wt.guardY rfl rfl ?_ | refine Wt.quiet rfl (Wq.fieldAddr rfl rfl (Wq.nil ?_))))
            refine Wt.quiet rfl (Wq.load1 rfl (fun w' hw => (hat w' hw).get 2 rfl) (Wq.nil ?_))
            (repeat' (first | refine Wt.guardY rfl rfl ?_ | refine Wt.quiet rfl (Wq.moveE (by conv => { lhs; whnf }) (Wq.nil ?_))))
            refine Wt.chain rfl (Wl.call (named_spec (name := s)) rfl ?_)
            rintro _ w7 ⟨nb, rfl, hnb, n7⟩
            have n37 := New.trans n36 n7
            refine Wl.nil ⟨rfl, n37, ?_⟩
            (repeat' (refine Wt.guardY rfl rfl ?_))
            refine Wt.chain rfl (Wl.call (ContainsFuncPr_spec (p := fun y => decide (y.1 = s)) (g := 74) (cap := #[ptrV nb]) (hpr.keep (stable_flat pC) n37.keep) (fun y w' _ hw => named1_spec (hnb.chg hw id))) rfl ?_)
            rintro _ w8 ⟨rfl, n8⟩
            have n38 := New.trans n37 n8
            refine Wl.nil ⟨rfl, n38, ?_⟩
            cases hany : x0.props.any (fun y => decide (y.1 = s)) with
            | true =>
              (repeat' (first | refine Wt.nil ?_ | refine Wt.quiet rfl (Wq.pickFE rfl (by conv => { lhs; whnf }) (Wq.nil ?_))))
              (repeat' (first | refine Wl.assignE (by conv => { lhs; whnf }) ?_ | refine Wl.nil ?_ | refine Qseq.normal ?_ | refine Wc.seq ?_ | refine Wc.region ?_ | refine Wc.ret ?_ | refine Qseq.ret ?_ | refine Qblk.ret ?_ | refine Qloop.ret ?_ | refine Wc.condT rfl ?_))
              rw [hgo, hany, Bool.not_true, Bool.false_and, if_neg (by simp)]
              exact Qfn.ret1 rfl rfl ⟨_, rfl, rfl, New.trans n3 n38⟩
            | false =>
              rw [hany, Bool.not_false, Bool.true_and] at hgo
              (repeat' (first | refine Wt.nil ?_ | refine Wt.quiet rfl (Wq.pickFE rfl (by conv => { lhs; whnf }) (Wq.nil ?_))))
              (repeat' (first | refine Wl.moveE (by conv => { lhs; whnf }) ?_ | refine Wl.nil ?_ | refine Qseq.normal ?_ | refine Wc.region ?_ | refine Wc.skip ?_ | refine Qblk.normal ?_ | refine Wc.condF rfl ?_ | refine Wl.add rfl rfl (by omega) (by omega) ?_))
              exact Qloop.normal (i + 1) ⟨rfl, rfl, rfl, rfl, trivial⟩ ⟨by omega, by rw [hgo, take_snoc hs], b3.chg n38 id, New.trans n3 n38⟩ (by omega)
      · have e : i = p.drop.length := by omega
        subst e
        rw [List.drop_length] at hgo
        rw [hgo, dropGo, if_pos rfl]
        exact Qfn.ret1 rfl rfl ⟨_, rfl, rfl, n3⟩
end Go.Proofs.YtjpebmgllfiloaaDoor

namespace Go.Proofs.YtjpebmgllfiloaaDoor
open Go Wk
open Go.RowKit (Below)
attribute [local irreducible] Go.Calls

theorem IndexFuncKn_spec {Pb : Nat → Prop} {w : World} {v : Value} {l : List Nat} {p : Nat → Bool} {g : FuncId} {cap : Array Value} [hc : Callable Tryd.prog g] (h : RdS (one ptrV) 1 Pb w v l)
    (hf : ∀ y w', y ∈ l → New w w' → Calls Tryd.prog g ([ptrV y] ++ cap.toList).toArray w' (Ret fun r w'' => r = .bool (p y) ∧ New w' w'')) :
    Calls Tryd.prog 70 #[v, .func (.func g) #[] cap] w (Ret fun r w' => r = vi (idx p l) ∧ New w w') := by
  obtain ⟨a, cp, rfl, hc1, hc2⟩ := h.form
  simp only [maxLen] at hc2
  refine calls_of_Wc Tryd.func70 rfl Tryd.ntmps70 rfl ?_
  (repeat' (first | refine Wl.moveE (by conv => { lhs; whnf }) ?_ | refine Wl.assignE (by conv => { lhs; whnf }) ?_ | refine Wl.nil ?_ | refine Wl.lenS rfl ?_ | refine Qseq.normal ?_ | refine Wc.seq ?_ | refine Wc.region ?_ | refine Wc.block ?_))
  refine Wc.loop (σ := Nat) (fun i => [(0, .slice a l.length cp), (1, .func (.func g) #[] cap), (7, vi l.length), (8, vi i)]) (fun i w' => i ≤ l.length ∧ (∀ x ∈ l.take i, p x = false) ∧ New w w') (fun i => l.length - i) 0 ⟨rfl, rfl, rfl, rfl, trivial⟩ ⟨Nat.zero_le _, by simp, Chg.refl _ _⟩ ?_
  rintro i G w1 ⟨hi, hall, n1⟩
  simp only [upds]
  (repeat' (first | refine Wl.moveE (by conv => { lhs; whnf }) ?_ | refine Wl.assignE (by conv => { lhs; whnf }) ?_ | refine Wl.nil ?_ | refine Qseq.normal ?_ | refine Wc.seq ?_ | refine Wc.region ?_ | refine Wc.block ?_ | refine Wc.skip ?_ | refine Wc.exit ?_ | refine Wc.ret ?_ | refine Qseq.exit ?_ | refine Qblk.hit ?_ | refine Qloop.exit ?_ | refine Wc.condT rfl ?_ | refine Wc.condF rfl ?_ | refine Wl.lss rfl rfl (fun _ => ?_) (fun _ => ?_)))
  · obtain ⟨y, hy⟩ := get_lt l (k := i) (by omega)
    refine Wl.idxAddrV (h.keep (stable_one _) n1.keep) rfl rfl (by omega) hy fun b o hcell => ?_
    refine Wl.load1 rfl hcell ?_
    refine Wl.callV (dst := some 16) rfl (hf y w1 (List.mem_of_getElem? hy) n1) rfl ?_
    rintro _ w2 ⟨rfl, n2⟩
    simp only [updO]
    cases hp : p y with
    | true =>
      (repeat' (first | refine Wl.moveE (by conv => { lhs; whnf }) ?_ | refine Wl.assignE (by conv => { lhs; whnf }) ?_ | refine Wl.nil ?_ | refine Qseq.normal ?_ | refine Wc.seq ?_ | refine Wc.region ?_ | refine Wc.ret ?_ | refine Qseq.ret ?_ | refine Qblk.ret ?_ | refine Qloop.ret ?_ | refine Wc.condT rfl ?_))
      refine Qfn.ret1 rfl rfl ⟨_, rfl, ?_, New.trans n1 n2⟩
      rw [idx_hit hy hall hp]; rfl
    | false =>
      (repeat' (first | refine Wl.moveE (by conv => { lhs; whnf }) ?_ | refine Wl.nil ?_ | refine Qseq.normal ?_ | refine Wc.region ?_ | refine Wc.skip ?_ | refine Qblk.normal ?_ | refine Wc.condF rfl ?_ | refine Wl.add rfl rfl (by omega) (by omega) ?_))
      exact Qloop.normal (i + 1) ⟨rfl, rfl, rfl, rfl, trivial⟩ ⟨by omega, take_all hy hall hp, New.trans n1 n2⟩ (by omega)
  · have e : i = l.length := by omega
    subst e
    rw [List.take_length] at hall
    refine Qfn.ret1 rfl rfl ⟨_, rfl, ?_, n1⟩
    rw [idx_miss hall]; rfl
/-- c.name == x.Name. -/
theorem lay1_spec {w : World} {b c : Nat} {kn xn : List UInt8} {T T' : TypeId} {u1 u2 v0 v2 : Value} (hb : Bk w b T [v0, vs xn, v2]) (hk : Bk w c T' [vs kn, u1, u2]) :
    Calls Tryd.prog 71 #[ptrV c, ptrV b] w (Ret fun r w' => r = .bool (decide (kn = xn)) ∧ New w w') := by
  refine calls_of_Wc Tryd.func71 rfl Tryd.ntmps71 rfl ?_
  (repeat' (first | refine Wl.assignE (by conv => { lhs; whnf }) ?_ | refine Wl.nil ?_ | refine Qseq.normal ?_ | refine Wc.seq ?_ | refine Wc.region ?_))
  refine Wc.regionT rfl (by kernel_rfl) (New w) (Chg.drew _ _) ?_
  intro w1 n1
  (repeat' (first | refine Wt.quiet rfl (Wq.moveE (by conv => { lhs; whnf }) (Wq.nil ?_)) | refine Wt.quiet rfl (Wq.nilP rfl (Wq.nil ?_)) | refine Wt.quiet rfl (Wq.fieldAddr rfl rfl (Wq.nil ?_))))
  refine Wt.quiet rfl (Wq.load1 rfl (fun w' hw => (hk.chg hw id).cell (o := 0) rfl) (Wq.nil ?_))
  (repeat' (refine Wt.quiet rfl (Wq.fieldAddr rfl rfl (Wq.nil ?_))))
  refine Wt.quiet rfl (Wq.load1 rfl (fun w' hw => (hb.chg hw id).cell (o := 1) rfl) (Wq.nil ?_))
  (repeat' (first | refine Wt.nil ?_ | refine Wt.quiet rfl (Wq.assignE (by conv => { lhs; whnf }) (Wq.nil ?_)) | refine Wt.quiet rfl (Wq.seql rfl rfl (fun _ => Wq.nil ?_) (fun _ => Wq.nil ?_))))
  · (repeat' (first | refine Qseq.normal ?_ | refine Wc.ret ?_))
    refine Qfn.ret1 rfl rfl ⟨_, rfl, ?_, n1⟩
    rw [decide_eq_true (by assumption)]; rfl
  · (repeat' (first | refine Qseq.normal ?_ | refine Wc.ret ?_))
    refine Qfn.ret1 rfl rfl ⟨_, rfl, ?_, n1⟩
    rw [decide_eq_false (by assumption)]; rfl
/-- slices.Contains(p.Drop, x.Name). -/
theorem Lay1_spec {Pb : Nat → Prop} {w : World} {b : Nat} {T : TypeId} {v0 v1 dv : Value} {l : List (List UInt8)} {y : Pr} (hb : Bk w b T [v0, v1, dv]) (hd : RdS (one vs) 1 Pb w dv l) :
    Calls Tryd.prog 43 #[.agg (pC y).toArray, ptrV b] w (Ret fun r w' => r = .bool (l.contains y.1) ∧ New w w') := by
  refine calls_of_Wc Tryd.func43 rfl Tryd.ntmps43 rfl ?_
  (repeat' (first | refine Wc.seq ?_ | refine Wc.region ?_))
  refine Wl.box rfl fun w1 b1 n1 s1 => ?_
  replace b1 : Bk w1 w.heap.size 39 (pC y) := b1
  (repeat' (first | refine Wl.assignE (by conv => { lhs; whnf }) ?_ | refine Wl.nil ?_ | refine Qseq.normal ?_ | refine Wc.seq ?_ | refine Wc.region ?_ | refine Wl.fieldAddr rfl rfl ?_))
  refine Wl.load1 rfl ((hb.chg n1 id).cell (o := 2) rfl) ?_
  (repeat' (refine Wl.fieldAddr rfl rfl ?_))
  refine Wl.load1 rfl (b1.cell (o := 0) rfl) ?_
  refine Wl.call (ContainsStr_spec (s := y.1) (hd.keep (stable_one _) n1.keep)) rfl ?_
  rintro _ w2 ⟨rfl, n2⟩
  (repeat' (first | refine Wl.assignE (by conv => { lhs; whnf }) ?_ | refine Wl.nil ?_ | refine Qseq.normal ?_ | refine Wc.ret ?_))
  exact Qfn.ret1 rfl rfl ⟨_, rfl, rfl, New.trans n1 n2⟩
end Go.Proofs.YtjpebmgllfiloaaDoor

namespace Go.Proofs.YtjpebmgllfiloaaDoor.Wk
open Go Go.RowKit

theorem setRange_get (cs : List Value) (o : Nat) (new : List Value) (h : o + new.length ≤ cs.length) (q : Nat) : (setRange cs o new)[q]? = if o ≤ q ∧ q < o + new.length then new[q - o]? else cs[q]? := by
  unfold setRange
  rw [List.append_assoc, List.getElem?_append]
  simp only [List.length_take]
  split
  · rename_i h1
    rw [if_neg (by omega), List.getElem?_take, if_pos (by omega)]
  · rename_i h1
    rw [List.getElem?_append]
    split
    · rename_i h2
      rw [if_pos (by omega)]; congr 1; omega
    · rename_i h2
      rw [if_neg (by omega), List.getElem?_drop]; congr 1; omega
theorem setRange_length (cs : List Value) (o : Nat) (new : List Value) (h : o + new.length ≤ cs.length) : (setRange cs o new).length = cs.length := by
  unfold setRange; simp; omega
section
variable {P : Program} {n : Nat} {ds : List Deferred} {Q : Po} {F : Fr} {w w' : World} {ops rest : List Oper} {d d1 d2 : Nat} {ty ty1 ty2 : TypeId} {pos pos1 pos2 : String} {aft aft1 aft2 : Array Edge}
theorem OwnC.storeRange {Pb : Nat → Prop} {e : TypeId} {sz m g cap o : Nat} {v : Value} {cs new : List Value} (h : OwnC Pb w e sz v m cs) (hv : v = .slice (some ⟨g, 0, none⟩) m cap) (ho : o + new.length ≤ m * sz) (h1 : ∀ c ∈ new, c.oneCell' = true) :
    ∃ w', (storeCells ⟨g, o, none⟩ new 0).run P w = .ok () w' ∧ OwnC Pb w' e sz v m (setRange cs o new) ∧ Chg (fun b => v.ownBlock = some b) w w' := by
  obtain ⟨hl, hoc⟩ := h
  rcases hoc with ⟨rfl, _⟩ | ⟨g', cap', cur, rfl, hb, hg, h2, h3, h4, h5⟩
  · cases hv
  · cases hv
    have hms : m * sz ≤ cap * sz := Nat.mul_le_mul_right _ h2
    have hr := run_storeCells_at P g o e new 0 cur w hg (by omega) h1
    have hcl : cs.length = m * sz := hl
    refine ⟨_, hr, ⟨by rw [setRange_length _ _ _ (by omega)]; exact hl, .inr ⟨g, cap, _, rfl, hb, setRow_heap w g cur _ e _ hg, h2, h3, ?_, ?_⟩⟩, Chg.setRow rfl⟩
    · simp; omega
    · simp only [Nat.add_zero]
      apply List.ext_getElem?
      intro q
      rw [setRange_get cs o new (by omega)]
      rw [List.getElem?_take]
      have hcur : ∀ q, q < m * sz → cs[q]? = cur.toList[q]? := fun q hq => by rw [← h5, List.getElem?_take, if_pos hq]
      split
      · rename_i hq
        have := setRange_get cur.toList o new (by simp; omega) q
        unfold setRange at this
        rw [this]
        split
        · rfl
        · exact (hcur q hq).symm
      · rename_i hq
        rw [if_neg (by omega), List.getElem?_eq_none (by omega)]
/-- 's[j] = x', a struct into a list of one's own, the address told. -/
theorem Wl.storeOwnA {α : Type} {f : α → List Value} {Pb Pe : Nat → Prop} {xs : List α} {x y : Operand} {e sz bytes : Nat} {agg : Bool} {z v u : Value} {g j cap : Nat} {q : α} [he : ElT P e sz bytes agg z] (hf : ∀ x, (f x).length = sz) (h1 : ∀ x, ∀ c ∈ f x, c.oneCell' = true)
    (hown : OwnS (flat f) e sz Pb Pe w v xs) (hv : v = .slice (some ⟨g, 0, none⟩) xs.length cap) (hj : j < xs.length)
    (hx : ev n F x = .pointer (some ⟨g, j * sz, none⟩)) (hy : ev n F y = u) (hq : u.cells = (f q).toArray) (c : ∀ w', OwnS (flat f) e sz Pb Pe w' v (xs.set j q) → Chg (fun b => v.ownBlock = some b) w w' → Wl P n ds Q ops rest F w') :
    Wl P n ds Q ops (⟨none, .store e x y, ty, pos, aft, none⟩ :: rest) F w := by
  obtain ⟨cs, hoc, hel⟩ := hown
  have hjs : (j + 1) * sz ≤ xs.length * sz := Nat.mul_le_mul_right _ hj
  rw [Nat.add_mul] at hjs
  have hcl : cs.length = xs.length * sz := hoc.1
  obtain ⟨w', hr, hoc', hc⟩ := hoc.storeRange (P := P) (o := j * sz) (new := f q) hv (by rw [hf]; omega) (h1 q)
  refine Wl.unit (w' := w') ?_ (c w' ⟨setRange cs (j * sz) (f q), by simpa using hoc', fun i x hx => ?_⟩ hc)
  · have hs : u.cells.size = sz := by rw [hq]; simpa using hf q
    simp only [execOp, hx, hy, Instr.storeAt, Instr.sureAddr, storeVar, Sem.run_bind, Sem.run_pure, Result.andThen_ok, he.sizeOf, hq]
    rw [if_neg (by simp [hf])]
    simp only [hr, Result.andThen_ok]
  · have hi : i < xs.length := by have := (List.getElem?_eq_some_iff.1 hx).1; simpa using this
    have hi2 : (i + 1) * sz ≤ xs.length * sz := Nat.mul_le_mul_right _ hi
    rw [Nat.add_mul] at hi2
    rw [List.getElem?_set] at hx
    show _ = f x
    apply List.ext_getElem?
    intro k
    rw [List.getElem?_take, List.getElem?_drop, setRange_get _ _ _ (by rw [hf]; omega), hf]
    by_cases hk : k < sz
    · rw [if_pos hk]
      split at hx
      · rename_i e
        subst e
        simp only [hj, if_true, Option.some.injEq] at hx
        subst hx
        rw [if_pos (by omega)]; congr 1; omega
      · rename_i hne
        have hsep : ¬ (j * sz ≤ i * sz + k ∧ i * sz + k < j * sz + sz) := by
          rintro ⟨a1, a2⟩
          rcases Nat.lt_or_gt_of_ne hne with h | h
          · have : (j + 1) * sz ≤ i * sz := Nat.mul_le_mul_right _ h
            rw [Nat.add_mul] at this; omega
          · have : (i + 1) * sz ≤ j * sz := Nat.mul_le_mul_right _ h
            rw [Nat.add_mul] at this; omega
        rw [if_neg hsep]
        have h2 : (cs.drop (i * sz)).take sz = f x := hel i x hx
        rw [← h2, List.getElem?_take, if_pos hk, List.getElem?_drop]
    · rw [if_neg hk, List.getElem?_eq_none (by rw [hf]; omega)]
/-- 's[j].f = x', one cell of a struct in a list of one's own, the address told. -/
theorem Wl.storeOwnF {α : Type} {f : α → List Value} {Pb Pe : Nat → Prop} {xs : List α} {x y : Operand} {e e' sz bytes : Nat} {agg : Bool} {z v u : Value} {g j o cap : Nat} {p q : α} [he : ElT P e' 1 bytes agg z] (hf : ∀ x, (f x).length = sz) (ho : o < sz) (hu : u.oneCell' = true) (hp : xs[j]? = some p) (hpq : f q = (f p).set o u)
    (hown : OwnS (flat f) e sz Pb Pe w v xs) (hv : v = .slice (some ⟨g, 0, none⟩) xs.length cap)
    (hx : ev n F x = .pointer (some ⟨g, j * sz + o, none⟩)) (hy : ev n F y = u) (c : ∀ w', OwnS (flat f) e sz Pb Pe w' v (xs.set j q) → Chg (fun b => v.ownBlock = some b) w w' → Wl P n ds Q ops rest F w') :
    Wl P n ds Q ops (⟨none, .store e' x y, ty, pos, aft, none⟩ :: rest) F w := by
  obtain ⟨cs, hoc, hel⟩ := hown
  have hj : j < xs.length := (List.getElem?_eq_some_iff.1 hp).1
  have hjs : (j + 1) * sz ≤ xs.length * sz := Nat.mul_le_mul_right _ hj
  rw [Nat.add_mul] at hjs
  have hcl : cs.length = xs.length * sz := hoc.1
  have huc : u.cells = #[u] := by cases u <;> simp_all [Value.cells, Value.oneCell']
  obtain ⟨w', hr, hoc', hc⟩ := hoc.storeRange (P := P) (o := j * sz + o) (new := [u]) hv (by simp; omega) (by simpa using hu)
  refine Wl.unit (w' := w') ?_ (c w' ⟨setRange cs (j * sz + o) [u], by simpa using hoc', fun i x hx => ?_⟩ hc)
  · simp only [execOp, hx, hy, Instr.storeAt, Instr.sureAddr, storeVar, Sem.run_bind, Sem.run_pure, Result.andThen_ok, he.sizeOf, huc]
    rw [if_neg (by simp)]
    simp only [hr, Result.andThen_ok]
  · have hi : i < xs.length := by have := (List.getElem?_eq_some_iff.1 hx).1; simpa using this
    have hi2 : (i + 1) * sz ≤ xs.length * sz := Nat.mul_le_mul_right _ hi
    rw [Nat.add_mul] at hi2
    rw [List.getElem?_set] at hx
    show _ = f x
    apply List.ext_getElem?
    intro k
    rw [List.getElem?_take, List.getElem?_drop, setRange_get _ _ _ (by simp; omega), List.length_singleton]
    by_cases hk : k < sz
    · rw [if_pos hk]
      split at hx
      · rename_i e
        subst e
        simp only [hj, if_true, Option.some.injEq] at hx
        subst hx
        rw [hpq, List.getElem?_set]
        have h2 : (cs.drop (j * sz)).take sz = f p := hel j p hp
        by_cases hko : k = o
        · subst hko
          rw [if_pos (by omega), if_pos rfl, if_pos (by rw [hf]; exact hk), show j * sz + k - (j * sz + k) = 0 by omega]; rfl
        · rw [if_neg (by omega), if_neg (Ne.symm hko), ← h2, List.getElem?_take, if_pos hk, List.getElem?_drop]
      · rename_i hne
        have hsep : ¬ (j * sz + o ≤ i * sz + k ∧ i * sz + k < j * sz + o + 1) := by
          rintro ⟨a1, a2⟩
          rcases Nat.lt_or_gt_of_ne hne with h | h
          · have : (j + 1) * sz ≤ i * sz := Nat.mul_le_mul_right _ h
            rw [Nat.add_mul] at this; omega
          · have : (i + 1) * sz ≤ j * sz := Nat.mul_le_mul_right _ h
            rw [Nat.add_mul] at this; omega
        rw [if_neg hsep]
        have h2 : (cs.drop (i * sz)).take sz = f x := hel i x hx
        rw [← h2, List.getElem?_take, if_pos hk, List.getElem?_drop]
    · rw [if_neg hk, List.getElem?_eq_none (by rw [hf]; omega)]
/-- clear(s[i:]) of a list of one's own: what is ahead stays. -/
theorem run_clearTail {α : Type} {f : α → List Value} {Pb Pe : Nat → Prop} {xs : List α} {t e sz bytes : Nat} {agg : Bool} {z v : Value} {g cap i : Nat} (ht : P.underlying t = some (.slice e)) (he : ElT P e sz bytes agg z) (hz : ∀ c ∈ z.cells.toList, c.oneCell' = true)
    (hown : OwnS (flat f) e sz Pb Pe w v xs) (hv : v = .slice (some ⟨g, 0, none⟩) xs.length cap) (hi : i ≤ xs.length) (p : Addr) (hp : p = ⟨g, i * sz, none⟩ ∨ i = xs.length) :
    ∃ u w', (Builtin.clear_ #[t] ty #[.slice (some p) (xs.length - i) (cap - i)]).run P w = .ok u w' ∧ OwnS (flat f) e sz Pb Pe w' (.slice (some ⟨g, 0, none⟩) i cap) (xs.take i) ∧ Chg (fun b => v.ownBlock = some b) w w' := by
  have htk : ∀ w', OwnS (flat f) e sz Pb Pe w' v xs → OwnS (flat f) e sz Pb Pe w' (.slice (some ⟨g, 0, none⟩) i cap) (xs.take i) := fun w' h => h.take hi hv (by intro e; cases e)
  by_cases hie : i = xs.length
  · refine ⟨.tuple #[], w, ?_, htk w hown, Chg.refl _ _⟩
    subst hie
    simp [Builtin.clear_, run_underlying ht]
  · have hp' : p = ⟨g, i * sz, none⟩ := hp.resolve_right hie
    subst hp'
    obtain ⟨cs, hoc, hel⟩ := hown
    have hcl : cs.length = xs.length * sz := hoc.1
    have hle : i * sz ≤ xs.length * sz := Nat.mul_le_mul_right _ hi
    have hzl : (Builtin.zeroCells z.cells (xs.length - i)).toList.length = (xs.length - i) * sz := by rw [Array.length_toList, size_zeroCells, he.hz]
    obtain ⟨w', hr, hoc', hc⟩ := hoc.storeRange (P := P) (o := i * sz) (new := (Builtin.zeroCells z.cells (xs.length - i)).toList) hv (by rw [hzl, Nat.sub_mul]; omega) (by
      intro c hc
      simp only [Builtin.zeroCells, Array.toList_map, List.mem_map] at hc
      obtain ⟨q, hq, rfl⟩ := hc
      have hsz : 0 < z.cells.size := by
        rcases Nat.eq_zero_or_pos z.cells.size with h0 | h0
        · simp [h0] at hq
        · exact h0
      have hm := Nat.mod_lt q hsz
      refine hz _ ?_
      rw [getElem!_pos z.cells (q % z.cells.size) hm]
      simp)
    have hne : xs.length - i ≠ 0 := by omega
    refine ⟨.tuple #[], w', ?_, ?_, hc⟩
    · obtain ⟨k, hk⟩ : ∃ k, xs.length - i = k + 1 := ⟨xs.length - i - 1, by omega⟩
      rw [hk] at hr ⊢
      simp [Builtin.clear_, run_underlying ht, he.zeroValue, hr]
    · refine ⟨cs.take (i * sz), ⟨by rw [List.length_take, List.length_take, Nat.min_eq_left (by omega), Nat.min_eq_left hi], ?_⟩, fun q x hx => ?_⟩
      · rcases hoc'.2 with ⟨e1, _⟩ | ⟨g', cap', cur, e1, hb, hg, h1, h2, h3, h4⟩
        · rw [hv] at e1; cases e1
        · rw [hv] at e1
          cases e1
          have hl : (xs.take i).length = i := by simp; omega
          rw [hl]
          refine .inr ⟨g, cap, cur, rfl, hb, hg, by omega, h2, h3, ?_⟩
          have : cur.toList.take (i * sz) = (setRange cs (i * sz) (Builtin.zeroCells z.cells (xs.length - i)).toList).take (i * sz) := by rw [← h4, List.take_take, Nat.min_eq_left hle]
          rw [this]
          unfold setRange
          rw [List.append_assoc, List.take_append_of_le_length (by simp; omega), List.take_take, Nat.min_self]
      · rw [List.getElem?_take] at hx
        split at hx
        · rename_i hq
          have h1 := hel q x hx
          have : (q + 1) * sz ≤ i * sz := Nat.mul_le_mul_right _ hq
          rw [Nat.add_mul] at this
          show _ = f x
          rw [List.drop_take, List.take_take, Nat.min_eq_left (by omega)]
          exact h1
        · cases hx
/-- clear(s[i:]). -/
theorem Wl.clearTail {α : Type} {f : α → List Value} {Pb Pe : Nat → Prop} {xs : List α} {x lo : Operand} {t e sz bytes : Nat} {agg : Bool} {z v : Value} {k : IntKind} {g cap i : Nat} [ht : Und P t (.slice e)] [he : ElT P e sz bytes agg z] (hz : ∀ c ∈ z.cells.toList, c.oneCell' = true)
    (hown : OwnS (flat f) e sz Pb Pe w v xs) (hv : v = .slice (some ⟨g, 0, none⟩) xs.length cap) (hx : ev n F x = v) (hl : ev n F lo = .int k i) (hi : i ≤ xs.length) (hd : Nat.blt d1 n = true)
    (c : ∀ u w', OwnS (flat f) e sz Pb Pe w' (.slice (some ⟨g, 0, none⟩) i cap) (xs.take i) → Chg (fun b => v.ownBlock = some b) w w' → Wl P n ds Q ops rest (upd F d1 u) w') :
    Wl P n ds Q ops (⟨some d1, .slice t x (some lo) none none, ty1, pos1, aft1, none⟩ :: ⟨none, .call { callee := .builtin .clear, args := #[.tmp d1], argTypes := #[t] }, ty2, pos2, aft2, none⟩ :: rest) F w := by
  obtain ⟨_, cap', e1, hcap, _⟩ := hown.form
  have hcap2 : xs.length ≤ cap := by rw [hv] at e1; cases e1; exact hcap
  have hs := run_sliceS (P := P) (w := w) (p := some ⟨g, 0, none⟩) (l := xs.length) (cap := cap) (lo := some (.int k i)) (hi := none) (a := i) (b := xs.length) ht.h he (.inr ⟨k, rfl⟩) (.inl ⟨rfl, rfl⟩) hi hcap2
  have hp : (if cap = i then some (⟨g, 0, none⟩ : Addr) else Option.map (·.add (i * sz)) (some (⟨g, 0, none⟩ : Addr))) = some (if cap = i then ⟨g, 0, none⟩ else ⟨g, i * sz, none⟩) := by
    split
    · rfl
    · rw [Option.map_some, addr_add, Nat.zero_add]
  rw [hp] at hs
  obtain ⟨u, w', hr, ho, hc⟩ := run_clearTail (P := P) (ty := ty2) (w := w) ht.h he hz hown hv hi (if cap = i then ⟨g, 0, none⟩ else ⟨g, i * sz, none⟩) (by
    by_cases hci : cap = i
    · right; omega
    · left; rw [if_neg hci])
  refine Wl.val (w' := w) (v := .slice (some (if cap = i then ⟨g, 0, none⟩ else ⟨g, i * sz, none⟩)) (xs.length - i) (cap - i)) ?_ ?_
  · simp only [execOp, hx, hl, hv, Option.map_none, Option.map_some, Sem.run_bind, hs, Result.andThen_ok, Sem.run_pure]
  · refine Wl.valO (dst := none) (w' := w') (v := u) ?_ (c _ w' ho hc)
    have ed : ev n (upd F d1 (.slice (some (if cap = i then ⟨g, 0, none⟩ else ⟨g, i * sz, none⟩)) (xs.length - i) (cap - i))) (.tmp d1) = .slice (some (if cap = i then ⟨g, 0, none⟩ else ⟨g, i * sz, none⟩)) (xs.length - i) (cap - i) := by
      simp only [ev, hd, upd_eq, if_pos]
    simp only [execOp, resolve, invoke, builtin, Sem.run_bind, Sem.run_pure, Result.andThen_ok, List.map_toArray, List.map_cons, List.map_nil, ed, hr]
/-- x[:b], told. -/
theorem Wl.sliceToP {x hi : Operand} {t e sz bytes : Nat} {agg : Bool} {z : Value} {k : IntKind} {p : Option Addr} {l cap b : Nat} [ht : Und P t (.slice e)] [he : ElT P e sz bytes agg z] (hx : ev n F x = .slice p l cap) (hh : ev n F hi = .int k b) (h1 : b ≤ cap)
    (c : Wl P n ds Q ops rest (upd F d (.slice p b cap)) w) : Wl P n ds Q ops (⟨some d, .slice t x none (some hi) none, ty, pos, aft, none⟩ :: rest) F w := by
  have := run_sliceS (P := P) (w := w) (p := p) (l := l) (lo := none) (hi := some (.int k b)) (a := 0) (b := b) ht.h he (.inl ⟨rfl, rfl⟩) (.inr ⟨k, rfl⟩) (Nat.zero_le _) h1
  have hp : (if cap = 0 then p else p.map (·.add (0 * sz))) = p := by
    split
    · rfl
    · cases p with
      | none => rfl
      | some a => simp [Addr.add]
  refine Wl.val (w' := w) (v := .slice p b cap) ?_ c
  simp only [execOp, hx, hh, Option.map_none, Option.map_some, Sem.run_bind, this, Result.andThen_ok, Sem.run_pure, hp, Nat.sub_zero]
/-- What stands between two pieces of code, told: the ways of the first come together. -/
theorem Wc.cut {a b : Code} (M : Fr → World → Prop) (h1 : Wc P n ds (fun e F w => e = .normal ∧ M F w) a F w) (h2 : ∀ F w, M F w → Wc P n ds Q b F w) : Wc P n ds Q (.seq a b) F w := by
  unfold Wc at *
  refine wp_seq (wp_mono h1 ?_)
  rintro e a' w' ⟨F', rfl, he, hM⟩
  subst he
  exact h2 F' w' hM
end
end Go.Proofs.YtjpebmgllfiloaaDoor.Wk

namespace Go.Proofs.YtjpebmgllfiloaaDoor
open Go Wk
open Go.RowKit (Below)
attribute [local irreducible] Go.Calls

theorem idx_cases {α : Type} (p : α → Bool) (l : List α) : (idx p l = -1 ∧ ∀ x ∈ l, p x = false) ∨ ∃ i y, idx p l = (i : Nat) ∧ l[i]? = some y ∧ p y = true ∧ ∀ x ∈ l.take i, p x = false := by
  unfold idx
  cases hx : l.findIdx? p with
  | none => exact .inl ⟨rfl, List.findIdx?_eq_none_iff.1 hx⟩
  | some i =>
    obtain ⟨hlt, hp, hb⟩ := List.findIdx?_eq_some_iff_getElem.1 hx
    refine .inr ⟨i, l[i], rfl, List.getElem?_eq_getElem hlt, hp, fun x hx => ?_⟩
    obtain ⟨j, hj⟩ := List.mem_iff_getElem?.1 hx
    rw [List.getElem?_take] at hj
    split at hj
    · rename_i hji
      have h2 := hb j hji
      obtain ⟨h3, rfl⟩ := List.getElem?_eq_some_iff.1 hj
      simpa using h2
    · cases hj
set_option maxHeartbeats 1000000 in
theorem DeleteFunc_spec {Pb : Nat → Prop} {w : World} {v : Value} {l : List Pr} {p : Pr → Bool} {fg : FuncId} {fc : Array Value} [hc : Callable Tryd.prog fg] (h : OwnPr Pb w v l)
    (hf : ∀ y w', y ∈ l → Chg (fun b => v.ownBlock = some b) w w' → Calls Tryd.prog fg ([Value.agg (pC y).toArray] ++ fc.toList).toArray w' (Ret fun r w'' => r = .bool (p y) ∧ New w' w'')) :
    Calls Tryd.prog 42 #[v, .func (.func fg) #[] fc] w (Ret fun r w' => OwnPr Pb w' r (l.filter fun y => !p y) ∧ (∀ b, r.ownBlock = some b → v.ownBlock = some b) ∧ Chg (fun b => v.ownBlock = some b) w w') := by
  refine calls_of_Wc Tryd.func42 rfl Tryd.ntmps42 rfl ?_
  (repeat' (first | refine Wl.moveE (by conv => { lhs; whnf }) ?_ | refine Wl.assignE (by conv => { lhs; whnf }) ?_ | refine Wl.nil ?_ | refine Qseq.normal ?_ | refine Wc.seq ?_ | refine Wc.region ?_))
  refine Wl.call (IndexFuncPr_spec (h.rd (mono_flat pC)) (fun y w' hy hn => hf y w' hy hn.any)) rfl ?_
  rintro _ w1 ⟨rfl, n1⟩
  rcases idx_cases p l with ⟨e, hno⟩ | ⟨i, y0, e, hi0, hpy, hbef⟩
  · rw [e]
    (repeat' (first | refine Wl.moveE (by conv => { lhs; whnf }) ?_ | refine Wl.assignE (by conv => { lhs; whnf }) ?_ | refine Wl.nil ?_ | refine Qseq.normal ?_ | refine Wc.seq ?_ | refine Wc.region ?_ | refine Wc.ret ?_ | refine Qseq.ret ?_ | refine Wc.condT rfl ?_ | (refine Wl.eql rfl rfl (fun _ => ?_) (fun _ => ?_) <;> (first | (exfalso; omega) | skip))))
    refine Qfn.ret1 rfl rfl ⟨_, rfl, ?_, fun b hb => hb, n1.any⟩
    rw [List.filter_eq_self.2 (fun y hy => by simp [hno y hy])]
    exact h.new plainPr n1
  · rw [e]
    have hil : i < l.length := (List.getElem?_eq_some_iff.1 hi0).1
    obtain ⟨g, cap, rfl, hgb, hgl, hob⟩ := h.blk (by intro e; rw [e] at hil; simp at hil)
    obtain ⟨_, _, hfm, hcap, hmax⟩ := h.form
    cases hfm
    simp only [maxLen] at hmax
    (repeat' (first | refine Wl.moveE (by conv => { lhs; whnf }) ?_ | refine Wl.assignE (by conv => { lhs; whnf }) ?_ | refine Wl.nil ?_ | refine Qseq.normal ?_ | refine Wc.seq ?_ | refine Wc.region ?_ | refine Wc.block ?_ | refine Wc.skip ?_ | refine Wc.condF rfl ?_ | refine Wl.add rfl rfl (by omega) (by omega) ?_ | (refine Wl.eql rfl rfl (fun _ => ?_) (fun _ => ?_) <;> (first | (exfalso; omega) | skip))))
    refine Wc.loop (σ := Nat × Nat × List Pr) (fun s => [(0, .slice (some ⟨g, 0, none⟩) l.length cap), (1, .func (.func fg) #[] fc), (5, vi s.1), (6, vi s.2.1)])
      (fun s w' => s.1 < s.2.1 ∧ s.2.1 ≤ l.length ∧ s.2.2.length = l.length ∧ s.2.2.take s.1 = (l.take s.2.1).filter (fun y => !p y) ∧ s.2.2.drop s.2.1 = l.drop s.2.1 ∧ OwnPr Pb w' (.slice (some ⟨g, 0, none⟩) l.length cap) s.2.2 ∧ Chg (fun b => (Value.slice (some (⟨g, 0, none⟩ : Addr)) l.length cap).ownBlock = some b) w w') (fun s => l.length - s.2.1)
      (i, i + 1, l) ⟨rfl, rfl, rfl, rfl, trivial⟩ ⟨by simp, by simp only; omega, rfl, ?_, rfl, h.new plainPr n1, n1.any⟩ ?_
    · simp only
      rw [take_snoc hi0, List.filter_append, List.filter_eq_self.2 (fun y hy => by simp [hbef y hy])]
      simp [hpy]
    rintro ⟨i, j, xs⟩ G w2 ⟨hij, hj, hxl, htk, hdr, ox, c2⟩
    dsimp only at hij hj hxl htk hdr ox c2
    simp only [upds]
    (repeat' (first | refine Wl.moveE (by conv => { lhs; whnf }) ?_ | refine Wl.nil ?_ | refine Wl.lenS rfl ?_ | refine Qseq.normal ?_ | refine Wc.seq ?_ | refine Wc.region ?_ | refine Wc.block ?_ | refine Wc.skip ?_ | refine Wc.exit ?_ | refine Qseq.exit ?_ | refine Qblk.hit ?_ | refine Qloop.exit ?_ | refine Wc.condT rfl ?_ | refine Wc.condF rfl ?_ | refine Wl.lss rfl rfl (fun _ => ?_) (fun _ => ?_)))
    · obtain ⟨y, hy⟩ := get_lt l (k := j) (by omega)
      have hxy : xs[j]? = some y := by
        have := congrArg (fun q => q[0]?) hdr
        simpa [hy] using this
      have hox : OwnPr Pb w2 (.slice (some ⟨g, 0, none⟩) l.length cap) xs := ox
      have hrd := ox.rd (mono_flat pC)
      refine Wl.idxAddr hrd rfl rfl (by omega) hxy fun b o cs hl hR hat => ?_
      obtain rfl : cs = pC y := hR
      refine Wl.loadAt hat rfl rfl ?_
      refine Wl.alloc fun w3 b3 n3 s3 => ?_
      refine Wl.storeB (new := pC y) b3 rfl rfl rfl rfl (show (2 : Nat) ≤ 2 from Nat.le_refl 2) (goodPr.oc (fun _ => True) w y _ rfl rfl) fun w4 b4 c4 s4 => ?_
      replace b4 : Bk w4 w2.heap.size 39 (pC y) := b4
      have hs2 := c2.size
      have n24 : New w2 w4 := Chg.trans n3 c4 fun k hk e => by omega
      have ox4 := ox.new plainPr n24
      have c24 := Chg.trans c2 (n24.any (M := fun b => (Value.slice (some (⟨g, 0, none⟩ : Addr)) l.length cap).ownBlock = some b)) fun _ _ e => e
      (repeat' (first | refine Wl.moveE (by conv => { lhs; whnf }) ?_ | refine Wl.nil ?_ | refine Qseq.normal ?_ | refine Wc.seq ?_ | refine Wc.region ?_))
      refine Wl.loadB b4 rfl rfl ?_
      refine Wl.callV (dst := some 28) rfl (hf y w4 (List.mem_of_getElem? hy) c24) rfl ?_
      rintro _ w5 ⟨rfl, n5⟩
      simp only [updO]
      have b5 := b4.chg n5 id
      have ox5 := ox4.new plainPr n5
      have c5 := Chg.trans c24 (n5.any (M := fun b => (Value.slice (some (⟨g, 0, none⟩ : Addr)) l.length cap).ownBlock = some b)) fun _ _ e => e
      cases hp : p y with
      | true =>
        (repeat' (first | refine Wl.moveE (by conv => { lhs; whnf }) ?_ | refine Wl.assignE (by conv => { lhs; whnf }) ?_ | refine Wl.nil ?_ | refine Wl.notB rfl ?_ | refine Qseq.normal ?_ | refine Wc.region ?_ | refine Wc.skip ?_ | refine Qblk.normal ?_ | refine Wc.condF rfl ?_ | refine Wl.add rfl rfl (by omega) (by omega) ?_))
        refine Qloop.normal (i, j + 1, xs) ⟨rfl, rfl, rfl, rfl, trivial⟩ ⟨by dsimp only; omega, by dsimp only; omega, hxl, ?_, ?_, ox5, c5⟩ (by dsimp only; omega)
        · dsimp only
          rw [htk, take_snoc hy, List.filter_append]; simp [hp]
        · dsimp only
          have := congrArg (List.drop 1) hdr
          simpa [List.drop_drop] using this
      | false =>
        (repeat' (first | refine Wl.moveE (by conv => { lhs; whnf }) ?_ | refine Wl.nil ?_ | refine Wl.notB rfl ?_ | refine Qseq.normal ?_ | refine Wc.seq ?_ | refine Wc.region ?_ | refine Wc.condT rfl ?_))
        refine Wl.loadB b5 rfl rfl ?_
        refine Wl.idxP rfl rfl (by omega) (by omega) ?_
        refine Wl.storeOwnA (f := pC) (q := y) (j := i) (sz := 2) (cap := cap) (fun _ => rfl) (fun x c hc => goodPr.oc (fun _ => True) w x _ rfl rfl c hc) ox5 (by rw [hxl]) (by omega) (by show Value.pointer (some ⟨g, 0 + (i : Int).toNat * 2, none⟩) = _; simp) rfl rfl fun w6 o6 c6 => ?_
        (repeat' (first | refine Wl.moveE (by conv => { lhs; whnf }) ?_ | refine Wl.assignE (by conv => { lhs; whnf }) ?_ | refine Wl.nil ?_ | refine Qseq.normal ?_ | refine Wc.region ?_ | refine Qblk.normal ?_ | refine Wl.add rfl rfl (by omega) (by omega) ?_))
        refine Qloop.normal (i + 1, j + 1, xs.set i y) ⟨rfl, rfl, rfl, rfl, trivial⟩ ⟨by dsimp only; omega, by dsimp only; omega, by simpa using hxl, ?_, ?_, o6, Chg.trans c5 c6 fun _ _ e => e⟩ (by dsimp only; omega)
        · dsimp only
          have hget : (xs.set i y)[i]? = some y := by rw [List.getElem?_set, if_pos rfl, if_pos (by omega)]
          rw [take_snoc hget, List.take_set_of_le (Nat.le_refl i), htk, take_snoc hy, List.filter_append]; simp [hp]
        · dsimp only
          rw [List.drop_set_of_lt (by omega)]
          have := congrArg (List.drop 1) hdr
          simpa [List.drop_drop] using this
    · have e : j = l.length := by omega
      subst e
      rw [List.take_length] at htk
      refine Wl.clearTail (f := pC) (i := i) (cap := cap) (by simp [Value.cells]; rfl) ox (by rw [hxl]) rfl rfl (by omega) rfl fun u w3 o3 c3 => ?_
      (repeat' (first | refine Wl.moveE (by conv => { lhs; whnf }) ?_ | refine Wl.nil ?_ | refine Qseq.normal ?_ | refine Wc.seq ?_ | refine Wc.region ?_))
      refine Wl.sliceToP rfl rfl (by omega) ?_
      (repeat' (first | refine Wl.assignE (by conv => { lhs; whnf }) ?_ | refine Wl.nil ?_ | refine Qseq.normal ?_ | refine Wc.ret ?_))
      refine Qfn.ret1 rfl rfl ⟨_, rfl, ?_, fun b hb => hb, Chg.trans c2 c3 fun _ _ e => e⟩
      rw [← htk]
      exact o3
end Go.Proofs.YtjpebmgllfiloaaDoor

namespace Go.Proofs.YtjpebmgllfiloaaDoor
open Go Wk
open Go.RowKit (Below)
attribute [local irreducible] Go.Calls

def setPr (ps : List Pr) (p : Pr) : List Pr := match ps.findIdx? (fun y => decide (y.1 = p.1)) with
  | some i => ps.set i (p.1, p.2)
  | none => ps ++ [p]
def kidIdx (G : List Kn) (k : Nat) (nm : List UInt8) : Option Nat := match G[k]? with
  | some kn => kn.kids.find? fun j => match G[j]? with | some x => decide (x.name = nm) | none => false
  | none => none
abbrev LayR := Bool × List Kn × Int
def layLoop (pn : List Nd) (k n : Nat) (rec : Nat → Nat → List Kn → Int → LayR) : List Nat → List Kn → Int → LayR
  | [], G, c => (true, G, c)
  | i :: r, G, c => match pn[i]? with
    | none => (true, G, c)
    | some x =>
      if x.parent ≠ (n : Int) then layLoop pn k n rec r G c
      else match kidIdx G k x.name with
        | some j => (match rec j i G c with | (true, G', c') => layLoop pn k n rec r G' c' | (false, G', c') => (false, G', c'))
        | none => if 512 < c + 1 then (false, G, c + 1)
          else (match rec G.length i (addKid (G ++ [⟨x.name, [], []⟩]) k G.length) (c + 1) with | (true, G', c') => layLoop pn k n rec r G' c' | (false, G', c') => (false, G', c'))
def layG (pn : List Nd) : Nat → Nat → Nat → List Kn → Int → LayR
  | 0, _, _, G, c => (false, G, c)
  | f + 1, k, n, G, c => match G[k]?, pn[n]? with
    | some kn, some x =>
      let ps := x.props.foldl setPr kn.props
      let G1 := G.set k { kn with props := ps }
      if 32 < ps.length then (false, G1, c) else layLoop pn k n (fun j i G c => layG pn f j i G c) ((List.range pn.length).drop (n + 1)) G1 c
    | _, _ => (false, G, c)
theorem setPr_length (ps : List Pr) (p : Pr) : ps.length ≤ (setPr ps p).length ∧ (setPr ps p).length ≤ ps.length + 1 := by
  unfold setPr; split <;> simp
theorem foldl_setPr_length : ∀ (l ps : List Pr), ps.length ≤ (l.foldl setPr ps).length ∧ (l.foldl setPr ps).length ≤ ps.length + l.length
  | [], ps => by simp
  | p :: l, ps => by
    have h1 := setPr_length ps p
    have h2 := foldl_setPr_length l (setPr ps p)
    rw [List.foldl_cons]
    simp only [List.length_cons]
    omega

/-- The kid of a name, by its block. -/
theorem kid_cases {lo : Nat} {lab : Lab} {w : World} {bs : List Nat} {G : List Kn} (kg : KG lo lab w bs G) {k : Nat} {kn : Kn} (hk : G[k]? = some kn) (nm : List UInt8) (p : Nat → Bool)
    (hp : ∀ j y, G[j]? = some y → p (bs.getD j 0) = decide (y.name = nm)) :
    (idx p (kn.kids.map fun j => bs.getD j 0) = -1 ∧ kidIdx G k nm = none) ∨ ∃ i j, idx p (kn.kids.map fun j => bs.getD j 0) = (i : Nat) ∧ kn.kids[i]? = some j ∧ kidIdx G k nm = some j := by
  have hpj : ∀ j ∈ kn.kids, p (bs.getD j 0) = (match G[j]? with | some x => decide (x.name = nm) | none => false) := fun j hj => by
    obtain ⟨y, hy⟩ := get_lt G (kg.kid k kn hk j hj).2
    rw [hp j y hy, hy]
  unfold kidIdx
  rw [hk]
  dsimp only
  rcases idx_cases p (kn.kids.map fun j => bs.getD j 0) with ⟨e, hno⟩ | ⟨i, b, e, hi, hpb, hbef⟩
  · refine .inl ⟨e, List.find?_eq_none.2 fun j hj => ?_⟩
    have := hno (bs.getD j 0) (List.mem_map.2 ⟨j, hj, rfl⟩)
    rw [hpj j hj] at this
    rw [this]; simp
  · rw [List.getElem?_map] at hi
    obtain ⟨j, hj, rfl⟩ := Option.map_eq_some_iff.1 hi
    refine .inr ⟨i, j, e, hj, ?_⟩
    rw [List.find?_eq_some_iff_append]
    rw [hpj j (List.mem_of_getElem? hj)] at hpb
    refine ⟨hpb, kn.kids.take i, kn.kids.drop (i + 1), ?_, fun q hq => ?_⟩
    · rw [← drop_cons hj, List.take_append_drop]
    · have hqk := List.mem_of_mem_take hq
      have := hbef (bs.getD q 0) (by rw [← List.map_take]; exact List.mem_map.2 ⟨q, hq, rfl⟩)
      rw [hpj q hqk] at this
      rw [this]; rfl
/-- What lay needs of memory, and keeps: the graph, its counter's block, the piece. -/
structure LayW (lo bl : Nat) (lab : Lab) (w : World) (bs : List Nat) (G : List Kn) (pvl : Value) (pn : List Nd) (c : Int) : Prop where
  kg : KG lo lab w bs G
  bk : Bk w bl 82 [pvl, vi c]
  bln : lo ≤ bl ∧ lab bl = none
  rd : RdS rNd 3 (fun b => b < lo) w pvl pn
  gl : (G.length : Int) = c
  pl : ∀ (i : Nat) (k : Kn), G[i]? = some k → k.props.length ≤ 32
  sz : lo ≤ w.heap.size
/-- What may have turned. -/
abbrev LayC (bl : Nat) (lab : Lab) (w w' : World) : Prop := Chg (fun b => b = bl ∨ lab b ≠ none) w w'
theorem LayW.new {lo bl : Nat} {lab : Lab} {w w' : World} {bs : List Nat} {G : List Kn} {pvl : Value} {pn : List Nd} {c : Int} (h : LayW lo bl lab w bs G pvl pn c) (n : New w w') : LayW lo bl lab w' bs G pvl pn c :=
  ⟨h.kg.new n, h.bk.chg n id, h.bln, h.rd.keep stableNd n.keep, h.gl, h.pl, Nat.le_trans h.sz n.size⟩

set_option maxHeartbeats 2000000 in
set_option maxRecDepth 4000 in
theorem lay_spec {lo bl : Nat} {pvl : Value} {pn : List Nd} (hpn : treeOk pn = true) : ∀ (f k n : Nat) (G : List Kn) (c : Int) (w : World) (bs : List Nat) (lab : Lab),
    k < G.length → n < pn.length → pn.length - n ≤ f → c ≤ 512 → LayW lo bl lab w bs G pvl pn c →
    Calls Tryd.prog 45 #[ptrV bl, ptrV (bs.getD k 0), vi n] w (Ret fun r w' => r = .bool (layG pn f k n G c).1 ∧ LayC bl lab w w' ∧ ((layG pn f k n G c).1 = true → ∃ lab' bs', LayW lo bl lab' w' (bs ++ bs') (layG pn f k n G c).2.1 pvl pn (layG pn f k n G c).2.2 ∧ (layG pn f k n G c).2.2 ≤ 512 ∧ ∀ b, b < w.heap.size → lab' b = lab b)) := by
  intro f
  induction f with
  | zero => intro k n G c w bs lab hk hn hf; omega
  | succ f ih =>
    intro k n G c w bs lab hk hn hf hc hw
    obtain ⟨kn, hkn⟩ := get_lt G hk
    obtain ⟨x, hx⟩ := get_lt pn hn
    have hxo := treeOk_nd hpn hx
    have hxl := propsOk_len hxo.pr
    have hnl := treeOk_len hpn
    rw [layG, hkn, hx]
    dsimp only
    obtain ⟨pa, pc, hpv, _, _⟩ := hw.rd.form
    subst hpv
    refine calls_of_Wc Tryd.func45 rfl Tryd.ntmps45 rfl ?_
    (repeat' (first | refine Wl.moveE (by conv => { lhs; whnf }) ?_ | refine Wl.assignE (by conv => { lhs; whnf }) ?_ | refine Wl.nil ?_ | refine Qseq.normal ?_ | refine Wc.seq ?_ | refine Wc.region ?_ | refine Wl.nilP rfl ?_ | refine Wl.fieldAddr rfl rfl ?_))
    refine Wl.load1 rfl (hw.bk.cell (o := 0) rfl) ?_
    (repeat' (refine Wl.moveE (by conv => { lhs; whnf }) ?_))
    refine Wl.idxAddr hw.rd rfl rfl (by omega) hx fun b o cs hl hR hat => ?_
    obtain ⟨pv, rfl, hpr⟩ := hR
    obtain ⟨qa, qc, rfl, hq1, hq2⟩ := hpr.form
    simp only [maxLen] at hq2
    (repeat' (refine Wl.fieldAddr rfl rfl ?_))
    refine Wl.load1 rfl (hat.get 2 rfl) ?_
    (repeat' (first | refine Wl.moveE (by conv => { lhs; whnf }) ?_ | refine Wl.nil ?_ | refine Wl.lenS rfl ?_ | refine Qseq.normal ?_ | refine Wc.block ?_))
    refine Wc.loop (σ := Nat × Lab) (fun s => [(0, ptrV bl), (1, ptrV (bs.getD k 0)), (2, vi n), (20, .slice qa x.props.length qc), (21, vi x.props.length), (22, vi s.1)])
      (fun s w' => s.1 ≤ x.props.length ∧ KG lo s.2 w' bs (G.set k { kn with props := (x.props.take s.1).foldl setPr kn.props }) ∧ (∀ b, b < w.heap.size → s.2 b = lab b) ∧ LayC bl lab w w' ∧ Bk w' bl 82 [.slice pa pn.length pc, vi c]) (fun s => x.props.length - s.1)
      (0, lab) ⟨rfl, rfl, rfl, rfl, rfl, rfl, trivial⟩ ⟨Nat.zero_le _, ?_, fun _ _ => rfl, Chg.refl _ _, hw.bk⟩ ?_
    · dsimp only
      rw [List.take_zero, List.foldl_nil]
      have : G.set k { kn with props := kn.props } = G := by
        obtain ⟨h1, h2⟩ := List.getElem?_eq_some_iff.1 hkn
        show G.set k kn = G
        rw [← h2]; exact List.set_getElem_self h1
      rw [this]; exact hw.kg
    rintro ⟨i, lab1⟩ G1 w1 ⟨hi, kg1, hl1, c1, hb1⟩
    dsimp only at hi kg1 hl1 c1 hb1
    have hbl1 : lab1 bl = none := (hl1 bl hw.bk.lt).trans hw.bln.2
    simp only [upds]
    generalize hps : (x.props.take i).foldl setPr kn.props = ps at kg1
    have hpsl := foldl_setPr_length (x.props.take i) kn.props
    rw [hps, List.length_take] at hpsl
    have hknl := hw.pl k kn hkn
    have keepP : ∀ w', LayC bl lab w w' → Keep (fun b => b < lo) w w' := fun w' hc => hc.keep fun b _ hb e => by
      rcases e with e | e
      · have := hw.bln.1; omega
      · exact e (hw.kg.lab_none (.inr hb))
    (repeat' (first | refine Wl.moveE (by conv => { lhs; whnf }) ?_ | refine Wl.nil ?_ | refine Qseq.normal ?_ | refine Wc.seq ?_ | refine Wc.region ?_ | refine Wc.block ?_ | refine Wc.skip ?_ | refine Wc.exit ?_ | refine Qseq.exit ?_ | refine Qblk.hit ?_ | refine Qloop.exit ?_ | refine Wc.condT rfl ?_ | refine Wc.condF rfl ?_ | refine Wl.nilP rfl ?_ | refine Wl.fieldAddr rfl rfl ?_ | refine Wl.lss rfl rfl (fun _ => ?_) (fun _ => ?_)))
    · obtain ⟨p, hp⟩ := get_lt x.props (k := i) (by omega)
      refine Wl.idxAddrK hpr (keepP w1 c1) rfl rfl (by omega) hp fun b' o' cs' hl' hR' hat' => ?_
      obtain rfl : cs' = pC p := hR'
      refine Wl.loadAt hat' rfl rfl ?_
      refine Wl.alloc fun w2 b2 n2 s2 => ?_
      refine Wl.storeB (new := pC p) b2 rfl rfl rfl rfl (show (2 : Nat) ≤ 2 from Nat.le_refl 2) (goodPr.oc (fun _ => True) w p _ rfl rfl) fun w3 b3 c3 s3 => ?_
      replace b3 : Bk w3 w1.heap.size 39 (pC p) := b3
      have n13 : New w1 w3 := Chg.trans n2 c3 fun b hb e => by omega
      have kg3 := kg1.new n13
      have c03 := Chg.trans c1 (n13.any (M := fun b => b = bl ∨ lab b ≠ none)) fun _ _ e => e
      (repeat' (first | refine Wl.nil ?_ | refine Qseq.normal ?_ | refine Wc.seq ?_))
      obtain ⟨pv3, kv3, ka3⟩ := kg3.at' k { kn with props := ps } (by rw [List.getElem?_set, if_pos rfl, if_pos hk])
      obtain ⟨qv, qvc, hpve, hpc, _⟩ := ka3.pr.form
      dsimp only at hpve hpc
      subst hpve
      have kb3 : Bk w3 (bs.getD k 0) tKn [vs kn.name, .slice qv ps.length qvc, kv3] := ka3.bk
      have kp3 : OwnPr (fun x => lab1 x = some (k, 1)) w3 (.slice qv ps.length qvc) ps := ka3.pr
      refine Wc.regionT rfl (by kernel_rfl) (New w3) (Chg.drew _ _) ?_
      intro w4 n4
      (repeat' (first | refine Wt.quiet rfl (Wq.moveE (by conv => { lhs; whnf }) (Wq.nil ?_)) | refine Wt.quiet rfl (Wq.nilP rfl (Wq.nil ?_)) | refine Wt.quiet rfl (Wq.fieldAddr rfl rfl (Wq.nil ?_))))
      refine Wt.quiet rfl (Wq.load1 rfl (fun w' hw => (kb3.chg hw id).cell (o := 1) rfl) (Wq.nil ?_))
      (repeat' (refine Wt.quiet rfl (Wq.fieldAddr rfl rfl (Wq.nil ?_))))
      refine Wt.quiet rfl (Wq.load1 rfl (fun w' hw => (b3.chg hw id).cell (o := 0) rfl) (Wq.nil ?_))
      skip
      refine Wt.chain rfl (Wl.call (named_spec (name := p.1)) rfl ?_)
      rintro _ w5 ⟨nb, rfl, hnb, n5⟩
      have n35 := New.trans n4 n5
      refine Wl.nil ⟨rfl, n35, ?_⟩
      refine Wt.chain rfl (Wl.call (IndexFuncPr_spec (p := fun y => decide (y.1 = p.1)) (g := 74) (cap := #[ptrV nb]) ((kp3.new plainPr n35).rd (mono_flat pC)) (fun y w' _ hw => named1_spec (hnb.chg hw id))) rfl ?_)
      rintro _ w6 ⟨rfl, n6⟩
      have n36 := New.trans n35 n6
      refine Wl.nil ⟨rfl, n36, ?_⟩
      have b6 := b3.chg n36 id
      have kg6 := kg3.new n36
      have ka6 := ka3.chg n36 (fun _ e => e.elim)
      have c06 := Chg.trans c03 (n36.any (M := fun b => b = bl ∨ lab b ≠ none)) fun _ _ e => e
      have kb6 : Bk w6 (bs.getD k 0) tKn [vs kn.name, .slice qv ps.length qvc, kv3] := ka6.bk
      have kp6 : OwnPr (fun x => lab1 x = some (k, 1)) w6 (.slice qv ps.length qvc) ps := ka6.pr
      have hstep : (x.props.take (i + 1)).foldl setPr kn.props = setPr ps p := by rw [take_snoc hp, List.foldl_append, hps]; rfl
      generalize hat6 : idx (fun y : Pr => decide (y.1 = p.1)) ps = at6
      (repeat' (first | refine Wt.nil ?_ | refine Wt.quiet rfl (Wq.assignE (by conv => { lhs; whnf }) (Wq.nil ?_))))
      refine Qseq.normal ?_
      refine Wc.cut (fun F w' => ∃ (ps' : List Pr) (j : Nat) (v0 : List UInt8) (lab' : Lab), agrees F [(0, ptrV bl), (1, ptrV (bs.getD k 0)), (2, vi n), (8, ptrV w1.heap.size), (9, vi j), (20, .slice qa x.props.length qc), (21, vi x.props.length), (22, vi i)] ∧
        ps'[j]? = some (p.1, v0) ∧ ps'.set j p = setPr ps p ∧ KG lo lab' w' bs (G.set k { kn with props := ps' }) ∧ Bk w' w1.heap.size 39 (pC p) ∧ (∀ b, b < w.heap.size → lab' b = lab b) ∧ LayC bl lab w w' ∧ Bk w' bl 82 [.slice pa pn.length pc, vi c]) ?_ ?_
      · rcases idx_cases (fun y : Pr => decide (y.1 = p.1)) ps with ⟨e, hno⟩ | ⟨j, y0, e, hj0, hpy, hbef⟩
        · rw [← hat6, e]
          (repeat' (first | refine Wl.moveE (by conv => { lhs; whnf }) ?_ | refine Wl.nil ?_ | refine Qseq.normal ?_ | refine Wc.seq ?_ | refine Wc.region ?_ | refine Wc.condT rfl ?_ | refine Wl.nilP rfl ?_ | refine Wl.fieldAddr rfl rfl ?_ | (refine Wl.lss rfl rfl (fun _ => ?_) (fun _ => ?_) <;> (first | (exfalso; omega) | skip))))
          refine Wl.load1 rfl (kb6.cell (o := 1) rfl) ?_
          (repeat' (first | refine Wl.assignE (by conv => { lhs; whnf }) ?_ | refine Wl.nil ?_ | refine Wl.lenS rfl ?_ | refine Qseq.normal ?_))
          have hbk : ∀ w', Chg (fun b => lab1 b = some (k, 1)) w6 w' → Bk w' (bs.getD k 0) tKn [vs kn.name, .slice qv ps.length qvc, kv3] := fun w' hw => kb6.chg hw (fun e => by have := ka6.lb; rw [e] at this; cases this)
          have hbp : ∀ w', Chg (fun b => lab1 b = some (k, 1)) w6 w' → Bk w' w1.heap.size 39 (pC p) := fun w' hw => b6.chg hw (fun e => by have := kg1.lab_none (b := w1.heap.size) (.inl (Nat.le_refl _)); rw [e] at this; cases this)
          refine Wc.regionT rfl (by kernel_rfl) (fun w' => Chg (fun b => lab1 b = some (k, 1)) w6 w') (Chg.drew _ _) ?_
          intro w7 n7
          (repeat' (first | refine Wt.quiet rfl (Wq.moveE (by conv => { lhs; whnf }) (Wq.nil ?_)) | refine Wt.quiet rfl (Wq.nilP rfl (Wq.nil ?_)) | refine Wt.quiet rfl (Wq.fieldAddr rfl rfl (Wq.nil ?_))))
          refine Wt.quiet rfl (Wq.load1 rfl (fun w' hw => (hbk w' hw).cell (o := 1) rfl) (Wq.nil ?_))
          refine Wt.quiet rfl (Wq.loadAt (fun w' hw => (hbp w' hw).at) rfl rfl (Wq.nil ?_))
          refine Wt.chain rfl (Wl.buildSlice1 (R := rPr) (y := p) (Pe := No) goodPr rfl rfl rfl rfl (by omega) (by omega) fun vt w8 ot n8 s8 hobt => ?_)
          have n68 := New.trans n7 n8
          refine Wl.nil ⟨rfl, n68.any, ?_⟩
          refine Wt.chain rfl (Wl.appendAll goodPr (kp6.new plainPr n68) (ot.rd (mono_flat pC)) (fun y cs hy => hy) rfl rfl (by omega) (by simp only [maxLen, List.length_singleton]; omega) (by simp only [List.length_singleton]; omega) fun pv9 w9 o9 c9 lie _ => ?_)
          have c69 : Chg (fun b => lab1 b = some (k, 1)) w6 w9 := Chg.trans n68.any c9 (fun b _ e => (kp6.lt e).1)
          refine Wl.nil ⟨rfl, c69, ?_⟩
          (repeat' (first | refine Wt.quiet rfl (Wq.nilP rfl (Wq.nil ?_)) | refine Wt.quiet rfl (Wq.fieldAddr rfl rfl (Wq.nil ?_))))
          have h9 : pv9.oneCell' = true := by obtain ⟨_, _, rfl, _⟩ := o9.form; rfl
          refine Wt.last rfl (Wl.store1 (hbk w9 c69) rfl (show (1 : Nat) < 3 by omega) rfl h9 fun w10 b10 c10 => ?_)
          replace b10 : Bk w10 (bs.getD k 0) tKn [vs kn.name, pv9, kv3] := b10
          have kg8 := kg6.new n68
          have ka8 := ka6.chg n68 (fun _ e => e.elim)
          have cT : Chg (fun b => ∃ q, lab1 b = some (k, q)) w8 w10 := Chg.trans (c9.mono fun b _ e => ⟨1, (kp6.lt e).1⟩) c10 fun b _ e => ⟨0, by rw [e]; exact ka6.lb⟩
          have sz8 : lo ≤ w8.heap.size := by have := c06.size; have := n68.size; have := hw.sz; omega
          have hGk : (G.set k { kn with props := ps })[k]? = some { kn with props := ps } := by rw [List.getElem?_set, if_pos rfl, if_pos hk]
          have kk8 : OwnKids (fun x => lab1 x = some (k, 2)) w8 kv3 (kn.kids.map fun j => bs.getD j 0) := ka8.kd
          have kk10 := (kk8.chg (plain_one _) c9 (fun b e1 e2 => by have h1 := (kk8.lt e1).1; rw [(kp6.lt e2).1] at h1; cases h1)).chg (plain_one _) c10 (fun b e1 e2 => by have h1 := (kk8.lt e1).1; rw [e2, ka6.lb] at h1; cases h1)
          have o10 := o9.chg plainPr c10 (fun b e1 e2 => by
            rcases (o9.lt e1).1 with h1 | h1
            · rw [e2, ka6.lb] at h1; cases h1
            · have := ka8.bk.lt; omega)
          have sp : Sep pv9 kv3 := fun b e1 e2 => by
            have h1 := kk8.lt e2
            rcases (o9.lt e1).1 with h2 | h2
            · rw [h1.1] at h2; cases h2
            · omega
          obtain ⟨lab10, kg10, hl10⟩ := kg8.set (k' := { kn with props := ps ++ [p] }) sz8 hGk cT b10 o10 (kk10.mono (mono_one _) (fun _ _ e => .inl e) (fun _ _ e => e)) sp (fun j hj => kg8.kid k { kn with props := ps } hGk j hj) (kg8.nd k { kn with props := ps } hGk)
          rw [List.set_set] at kg10
          (repeat' (refine Wl.nil ?_))
          refine ⟨rfl, ps ++ [p], ps.length, p.2, lab10, ⟨rfl, rfl, rfl, rfl, rfl, rfl, rfl, rfl, trivial⟩, by simp, ?_, kg10, ?_, fun b hb => (hl10 b (by have := c06.size; have := n68.size; omega)).trans (hl1 b hb), ?_, ?_⟩
          · unfold setPr
            rw [show ps.findIdx? (fun y => decide (y.1 = p.1)) = none from List.findIdx?_eq_none_iff.2 hno]
            simp
          · have hx1 := kg1.lab_none (b := w1.heap.size) (.inl (Nat.le_refl _))
            exact ((b6.chg n68 id).chg c9 (fun e => by have := (kp6.lt e).1; rw [hx1] at this; cases this)).chg c10 (fun e => by have := ka6.lb; rw [← e, hx1] at this; cases this)
          · exact Chg.trans (Chg.trans c06 (n68.any (M := fun b => b = bl ∨ lab b ≠ none)) fun _ _ e => e) cT fun b hb ⟨q, e⟩ => by
              right; rw [← hl1 b hb, e]; simp
          · exact (((hb1.chg n13 id).chg n36 id).chg n68 id).chg cT (fun ⟨q, e⟩ => by rw [hbl1] at e; cases e)
        · rw [← hat6, e]
          (repeat' (first | refine Wl.moveE (by conv => { lhs; whnf }) ?_ | refine Wl.nil ?_ | refine Qseq.normal ?_ | refine Wc.seq ?_ | refine Wc.region ?_ | refine Wc.skip ?_ | refine Wc.condF rfl ?_ | (refine Wl.lss rfl rfl (fun _ => ?_) (fun _ => ?_) <;> (first | (exfalso; omega) | skip))))
          refine ⟨rfl, ps, j, y0.2, lab1, ⟨rfl, rfl, rfl, rfl, rfl, rfl, rfl, rfl, trivial⟩, ?_, ?_, kg6, b6, hl1, c06, (hb1.chg n13 id).chg n36 id⟩
          · have := of_decide_eq_true hpy
            rw [hj0, ← this]
          · unfold setPr
            have hfi : ps.findIdx? (fun y => decide (y.1 = p.1)) = some j := by
              rw [List.findIdx?_eq_some_iff_getElem]
              obtain ⟨hlt, rfl⟩ := List.getElem?_eq_some_iff.1 hj0
              refine ⟨hlt, hpy, fun q hq => ?_⟩
              have := hbef ps[q] (by rw [List.mem_iff_getElem?]; exact ⟨q, by rw [List.getElem?_take, if_pos hq, List.getElem?_eq_getElem]⟩)
              simp [this]
            rw [hfi]
      · rintro F8 w8 ⟨ps', j, v0, lab8, hag, hj0, hset, kg8, b8, hl8, c8, hb8⟩
        rw [← upds_of_agrees hag]
        simp only [upds]
        have hGk : (G.set k { kn with props := ps' })[k]? = some { kn with props := ps' } := by rw [List.getElem?_set, if_pos rfl, if_pos hk]
        obtain ⟨pv8, kv8, ka8⟩ := kg8.at' k { kn with props := ps' } hGk
        have kp8 : OwnPr (fun x => lab8 x = some (k, 1)) w8 pv8 ps' := ka8.pr
        have hjl : j < ps'.length := (List.getElem?_eq_some_iff.1 hj0).1
        obtain ⟨g, gc, rfl, hgb, hgl, hob⟩ := kp8.blk (by intro e; rw [e] at hjl; simp at hjl)
        have kb8 : Bk w8 (bs.getD k 0) tKn [vs kn.name, .slice (some ⟨g, 0, none⟩) ps'.length gc, kv8] := ka8.bk
        skip
        refine Wc.regionT rfl (by kernel_rfl) (New w8) (Chg.drew _ _) ?_
        intro w9 n9
        (repeat' (first | refine Wt.quiet rfl (Wq.moveE (by conv => { lhs; whnf }) (Wq.nil ?_)) | refine Wt.quiet rfl (Wq.nilP rfl (Wq.nil ?_)) | refine Wt.quiet rfl (Wq.fieldAddr rfl rfl (Wq.nil ?_))))
        refine Wt.quiet rfl (Wq.load1 rfl (fun w' hw => (kb8.chg hw id).cell (o := 1) rfl) (Wq.nil ?_))
        (repeat' (first | refine Wt.quiet rfl (Wq.moveE (by conv => { lhs; whnf }) (Wq.nil ?_)) | refine Wt.quiet rfl (Wq.fieldAddr rfl rfl (Wq.nil ?_))))
        refine Wt.quiet rfl (Wq.load1 rfl (fun w' hw => (b8.chg hw id).cell (o := 1) rfl) (Wq.nil ?_))
        refine Wt.quiet rfl (Wq.idxP rfl rfl (by omega) (by omega) (Wq.nil ?_))
        (repeat' (refine Wt.quiet rfl (Wq.fieldAddr rfl rfl (Wq.nil ?_))))
        refine Wt.last rfl (Wl.storeOwnF (f := pC) (sz := 2) (o := 1) (j := j) (p := (p.1, v0)) (q := p) (u := vs p.2) (cap := gc) (fun _ => rfl) (by omega) rfl hj0 rfl (kp8.new plainPr n9) rfl (by show Value.pointer (some ⟨g, 0 + (j : Int).toNat * 2 + 1, none⟩) = _; simp) rfl fun w10 o10 c10 => ?_)
        have kg9 := kg8.new n9
        have kk9 : OwnKids (fun x => lab8 x = some (k, 2)) w9 kv8 (kn.kids.map fun j => bs.getD j 0) := (ka8.chg n9 (fun _ e => e.elim)).kd
        have cT : Chg (fun b => ∃ q, lab8 b = some (k, q)) w9 w10 := c10.mono fun b _ e => ⟨1, (kp8.lt e).1⟩
        have kk10 := kk9.chg (plain_one _) c10 (fun b e1 e2 => by have h1 := (kk9.lt e1).1; rw [(kp8.lt e2).1] at h1; cases h1)
        have b10 := (kb8.chg n9 id).chg c10 (fun e => by have h1 := ka8.lb; rw [(kp8.lt e).1] at h1; cases h1)
        have sz9 : lo ≤ w9.heap.size := by have := c8.size; have := n9.size; have := hw.sz; omega
        rw [hset] at o10
        have sp : Sep (.slice (some ⟨g, 0, none⟩) ps'.length gc) kv8 := fun b e1 e2 => by
          have h1 := (kk9.lt e2).1
          rw [(kp8.lt e1).1] at h1; cases h1
        obtain ⟨lab10, kg10, hl10⟩ := kg9.set (k' := { kn with props := setPr ps p }) sz9 hGk cT b10 (o10.mono (mono_flat pC) (fun _ _ e => .inl e) (fun _ _ e => e)) (kk10.mono (mono_one _) (fun _ _ e => .inl e) (fun _ _ e => e)) sp (fun j hj => kg9.kid k { kn with props := ps' } hGk j hj) (kg9.nd k { kn with props := ps' } hGk)
        rw [List.set_set] at kg10
        have cA := Chg.trans c8 (n9.any (M := fun b => b = bl ∨ lab b ≠ none)) fun _ _ e => e
        (repeat' (first | refine Wl.moveE (by conv => { lhs; whnf }) ?_ | refine Wl.nil ?_ | refine Qseq.normal ?_ | refine Wc.region ?_ | refine Qblk.normal ?_ | refine Wl.add rfl rfl (by omega) (by omega) ?_))
        exact Qloop.normal (i + 1, lab10) ⟨rfl, rfl, rfl, rfl, rfl, rfl, trivial⟩ ⟨by dsimp only; omega, by dsimp only; rw [hstep]; exact kg10, fun b hb => (hl10 b (by have := cA.size; omega)).trans (hl8 b hb),
          Chg.trans cA cT fun b hb ⟨q, e⟩ => (by right; rw [← hl8 b hb, e]; simp), (hb8.chg n9 id).chg cT (fun ⟨q, e⟩ => by rw [(hl8 bl hw.bk.lt).trans hw.bln.2] at e; cases e)⟩ (by dsimp only; omega)
    · have e : i = x.props.length := by omega
      subst e
      rw [List.take_length] at hps
      subst hps
      generalize hps : x.props.foldl setPr kn.props = ps at kg1 hpsl ⊢
      have hGk : (G.set k { kn with props := ps })[k]? = some { kn with props := ps } := by rw [List.getElem?_set, if_pos rfl, if_pos hk]
      obtain ⟨pv1, kv1, ka1⟩ := kg1.at' k { kn with props := ps } hGk
      obtain ⟨qv, qvc, hpve, _, _⟩ := ka1.pr.form
      dsimp only at hpve
      subst hpve
      refine Wl.load1 rfl (ka1.bk.cell (o := 1) rfl) ?_
      (repeat' (first | refine Wl.moveE (by conv => { lhs; whnf }) ?_ | refine Wl.assignE (by conv => { lhs; whnf }) ?_ | refine Wl.nil ?_ | refine Wl.lenS rfl ?_ | refine Qseq.normal ?_ | refine Wc.seq ?_ | refine Wc.region ?_ | refine Wc.block ?_ | refine Wc.skip ?_ | refine Wc.ret ?_ | refine Qseq.ret ?_ | refine Wc.condT rfl ?_ | refine Wc.condF rfl ?_ | refine Wl.add rfl rfl (by omega) (by omega) ?_ | refine Wl.gtr rfl rfl (fun _ => ?_) (fun _ => ?_)))
      · rw [if_pos (by omega)]
        exact Qfn.ret1 rfl rfl ⟨_, rfl, rfl, c1, fun e => by cases e⟩
      · rw [if_neg (by omega)]
        have hw1 : LayW lo bl lab1 w1 bs (G.set k { kn with props := ps }) (.slice pa pn.length pc) pn c := by
          refine ⟨kg1, ?_, ⟨hw.bln.1, ?_⟩, hw.rd.keep stableNd (keepP w1 c1), by rw [List.length_set]; exact hw.gl, fun q y hy => ?_, Nat.le_trans hw.sz c1.size⟩
          · exact hb1
          · rw [hl1 bl hw.bk.lt]; exact hw.bln.2
          · rw [List.getElem?_set] at hy
            split at hy
            · simp only [hk, if_true, Option.some.injEq] at hy
              subst hy; dsimp only; omega
            · exact hw.pl q y hy
        generalize hRES : layLoop pn k n (fun j i G c => layG pn f j i G c) ((List.range pn.length).drop (n + 1)) (G.set k { kn with props := ps }) c = RES
        refine Wc.loop (σ := Nat × List Kn × Int × Lab × List Nat) (fun s => [(0, ptrV bl), (1, ptrV (bs.getD k 0)), (2, vi n), (10, vi s.1)])
          (fun s w' => s.1 ≤ pn.length ∧ n + 1 ≤ s.1 ∧ layLoop pn k n (fun j i G c => layG pn f j i G c) ((List.range pn.length).drop s.1) s.2.1 s.2.2.1 = RES ∧ k < s.2.1.length ∧ LayW lo bl s.2.2.2.1 w' (bs ++ s.2.2.2.2) s.2.1 (.slice pa pn.length pc) pn s.2.2.1 ∧ s.2.2.1 ≤ 512 ∧ (∀ b, b < w.heap.size → s.2.2.2.1 b = lab b) ∧ LayC bl lab w w') (fun s => pn.length - s.1)
          (n + 1, G.set k { kn with props := ps }, c, lab1, []) ⟨rfl, rfl, rfl, rfl, trivial⟩ ⟨by dsimp only; omega, Nat.le_refl _, hRES, by simpa using hk, by simpa using hw1, hc, hl1, c1⟩ ?_
        rintro ⟨q, Gq, cq, labq, bsq⟩ G5 w5 ⟨hq, hnq, hres, hkq, hwq, hcq, hlq, c5⟩
        dsimp only at hq hnq hres hkq hwq hcq hlq c5
        simp only [upds]
        (repeat' (first | refine Wl.moveE (by conv => { lhs; whnf }) ?_ | refine Wc.seq ?_ | refine Wc.region ?_ | refine Wl.nilP rfl ?_ | refine Wl.fieldAddr rfl rfl ?_))
        refine Wl.load1 rfl (hwq.bk.cell (o := 0) rfl) ?_
        (repeat' (first | refine Wl.moveE (by conv => { lhs; whnf }) ?_ | refine Wl.assignE (by conv => { lhs; whnf }) ?_ | refine Wl.nil ?_ | refine Wl.lenS rfl ?_ | refine Qseq.normal ?_ | refine Wc.seq ?_ | refine Wc.region ?_ | refine Wc.block ?_ | refine Wc.skip ?_ | refine Wc.exit ?_ | refine Wc.ret ?_ | refine Qseq.exit ?_ | refine Qblk.hit ?_ | refine Qloop.exit ?_ | refine Wc.condT rfl ?_ | refine Wc.condF rfl ?_ | refine Wl.nilP rfl ?_ | refine Wl.fieldAddr rfl rfl ?_ | refine Wl.lss rfl rfl (fun _ => ?_) (fun _ => ?_)))
        · obtain ⟨y, hy⟩ := get_lt pn (k := q) (by omega)
          have hyo := treeOk_nd hpn hy
          have hdr : (List.range pn.length).drop q = q :: (List.range pn.length).drop (q + 1) := drop_cons (by rw [List.getElem?_range (by omega)])
          rw [hdr] at hres
          simp only [layLoop, hy] at hres
          refine Wl.load1 rfl (hwq.bk.cell (o := 0) rfl) ?_
          (repeat' (refine Wl.moveE (by conv => { lhs; whnf }) ?_))
          refine Wl.idxAddr hwq.rd rfl rfl (by omega) hy fun b o cs hl hR hat => ?_
          obtain ⟨ypv, rfl, hypr⟩ := hR
          refine Wl.loadAt hat rfl rfl ?_
          refine Wl.alloc fun w6 b6 n6 s6 => ?_
          refine Wl.storeB (new := [vi y.parent, vs y.name, ypv]) b6 rfl rfl rfl rfl (show (3 : Nat) ≤ 3 from Nat.le_refl 3) (goodNd.oc _ w5 y _ ⟨ypv, rfl, hypr⟩ rfl) fun w7 b7 c7 s7 => ?_
          replace b7 : Bk w7 w5.heap.size 37 [vi y.parent, vs y.name, ypv] := b7
          have n57 : New w5 w7 := Chg.trans n6 c7 fun b hb e => by omega
          have hw7 := hwq.new n57
          have c07 := Chg.trans c5 (n57.any (M := fun b => b = bl ∨ lab b ≠ none)) fun _ _ e => e
          (repeat' (first | refine Wl.nil ?_ | refine Qseq.normal ?_ | refine Wc.seq ?_ | refine Wc.region ?_ | refine Wl.fieldAddr rfl rfl ?_))
          refine Wl.load1 rfl (b7.cell (o := 0) rfl) ?_
          (repeat' (first | refine Wl.moveE (by conv => { lhs; whnf }) ?_ | refine Wl.assignE (by conv => { lhs; whnf }) ?_ | refine Wl.nil ?_ | refine Qseq.normal ?_ | refine Wc.seq ?_ | refine Wc.region ?_ | refine Wc.skip ?_ | refine Wc.exit ?_ | refine Qseq.exit ?_ | refine Qblk.hit ?_ | refine Wc.condT rfl ?_ | refine Wc.condF rfl ?_ | refine Wl.nilP rfl ?_ | refine Wl.fieldAddr rfl rfl ?_ | refine Wl.add rfl rfl (by omega) (by omega) ?_ | refine Wl.neq rfl rfl (fun _ => ?_) (fun _ => ?_)))
          · rw [if_pos (by assumption)] at hres
            exact Qloop.normal (q + 1, Gq, cq, labq, bsq) ⟨rfl, rfl, rfl, rfl, trivial⟩ ⟨by dsimp only; omega, by dsimp only; omega, hres, hkq, hw7, hcq, hlq, c07⟩ (by dsimp only; omega)
          · rw [if_neg (by intro h; contradiction)] at hres
            obtain ⟨kq, hkq'⟩ := get_lt Gq hkq
            obtain ⟨pvq, kvq, kaq⟩ := hw7.kg.at' k kq hkq'
            have hbsk : (bs ++ bsq).getD k 0 = bs.getD k 0 := by
              rw [List.getD_eq_getElem?_getD, List.getElem?_append_left (by rw [hw.kg.len]; exact hk), ← List.getD_eq_getElem?_getD]
            have kbq : Bk w7 (bs.getD k 0) tKn [vs kq.name, pvq, kvq] := hbsk ▸ kaq.bk
            refine Wl.load1 rfl (kbq.cell (o := 2) rfl) ?_
            refine Wl.makeFunc (first := []) (cap := [.tmp 11]) rfl rfl ?_
            obtain ⟨pf, hpf⟩ : ∃ pf : Nat → Bool, ∀ (j : Nat) (z : Kn), Gq[j]? = some z → pf ((bs ++ bsq).getD j 0) = decide (z.name = y.name) := by
              classical
              refine ⟨fun b => decide (w7.cell? ⟨b, 0, none⟩ = some (vs y.name)), fun j z hz => ?_⟩
              obtain ⟨pz, kz, kaz⟩ := hw7.kg.at' j z hz
              show decide (w7.cell? ⟨(bs ++ bsq).getD j 0, 0, none⟩ = some (vs y.name)) = _
              rw [kaz.bk.cell (o := 0) rfl]
              by_cases h : z.name = y.name
              · rw [decide_eq_true h, decide_eq_true (by rw [h])]
              · rw [decide_eq_false h, decide_eq_false (fun e => h (vs_inj (Option.some.inj e)))]
            refine Wl.call (IndexFuncKn_spec (p := pf) (g := 71) (cap := #[ptrV w5.heap.size]) (kaq.kd.rd (mono_one _)) (fun z w' hz hn => by
              obtain ⟨j, hj, rfl⟩ := List.mem_map.1 hz
              obtain ⟨zz, hzz⟩ := get_lt Gq (hw7.kg.kid k kq hkq' j hj).2
              obtain ⟨pz, kz, kaz⟩ := hw7.kg.at' j zz hzz
              rw [hpf j zz hzz]
              exact lay1_spec (b7.chg hn id) (kaz.bk.chg hn id))) rfl ?_
            rintro _ w8 ⟨rfl, n8⟩
            have hw8 := hw7.new n8
            have c08 := Chg.trans c07 (n8.any (M := fun b => b = bl ∨ lab b ≠ none)) fun _ _ e => e
            have b8 := b7.chg n8 id
            have kbq8 := kbq.chg n8 id
            rcases kid_cases hw7.kg hkq' y.name pf hpf with ⟨e, hnone⟩ | ⟨i, j, e, hij, hsome⟩
            · rw [hnone] at hres
              rw [e]
              dsimp only at hres
              have hgl8 := hw8.gl
              obtain ⟨kp, kc, hkv, hkc1, hkc2⟩ := kaq.kd.form
              rw [List.length_map] at hkv hkc1
              subst hkv
              simp only [maxLen] at hkc2
              have hkl := hw8.kg.kids_le hkq'
              (repeat' (first | refine Wl.moveE (by conv => { lhs; whnf }) ?_ | refine Wl.assignE (by conv => { lhs; whnf }) ?_ | refine Wl.nil ?_ | refine Qseq.normal ?_ | refine Wc.seq ?_ | refine Wc.region ?_ | refine Wc.condT rfl ?_ | refine Wl.nilP rfl ?_ | refine Wl.fieldAddr rfl rfl ?_ | (refine Wl.lss rfl rfl (fun _ => ?_) (fun _ => ?_) <;> (first | (exfalso; omega) | skip))))
              refine Wl.load1 rfl (hw8.bk.cell (o := 1) rfl) ?_
              (repeat' (first | refine Wl.nilP rfl ?_ | refine Wl.fieldAddr rfl rfl ?_ | refine Wl.add rfl rfl (by omega) (by omega) ?_))
              refine Wl.store1 hw8.bk rfl (show (1 : Nat) < 2 by omega) rfl rfl fun w9 b9 c9 => ?_
              replace b9 : Bk w9 bl 82 [.slice pa pn.length pc, vi (cq + 1)] := b9
              have c09 : LayC bl lab w w9 := Chg.trans c08 c9 fun b _ e => .inl e
              (repeat' (first | refine Wl.moveE (by conv => { lhs; whnf }) ?_ | refine Wl.nil ?_ | refine Qseq.normal ?_ | refine Wc.seq ?_ | refine Wc.region ?_ | refine Wl.nilP rfl ?_ | refine Wl.fieldAddr rfl rfl ?_))
              refine Wl.load1 rfl (b9.cell (o := 1) rfl) ?_
              (repeat' (first | refine Wl.moveE (by conv => { lhs; whnf }) ?_ | refine Wl.assignE (by conv => { lhs; whnf }) ?_ | refine Wl.nil ?_ | refine Qseq.normal ?_ | refine Wc.seq ?_ | refine Wc.region ?_ | refine Wc.skip ?_ | refine Wc.ret ?_ | refine Qseq.ret ?_ | refine Qblk.ret ?_ | refine Qloop.ret ?_ | refine Wc.condT rfl ?_ | refine Wc.condF rfl ?_ | refine Wl.nilP rfl ?_ | refine Wl.fieldAddr rfl rfl ?_ | refine Wl.gtr rfl rfl (fun _ => ?_) (fun _ => ?_)))
              · rw [if_pos (by omega)] at hres
                subst hres
                exact Qfn.ret1 rfl rfl ⟨_, rfl, rfl, c09, fun e => by cases e⟩
              · rw [if_neg (by omega)] at hres
                have hnk : ∀ q', labq bl ≠ some (k, q') := fun q' e => by rw [hw8.bln.2] at e; cases e
                have ka9 := (kaq.chg n8 (fun _ e => e.elim)).chg c9 (fun b e q' => by rw [e]; exact hnk q')
                have kg9 := hw8.kg.chg c9 (fun b hb e => by rw [e]; exact hw8.bln.2)
                have kb9 : Bk w9 (bs.getD k 0) tKn [vs kq.name, pvq, .slice kp kq.kids.length kc] := hbsk ▸ ka9.bk
                have bn9 : Bk w9 w5.heap.size 37 [vi y.parent, vs y.name, ypv] := b8.chg c9 (fun e => by have := hwq.bk.lt; omega)
                refine Wl.load1 rfl (kb9.cell (o := 2) rfl) ?_
                (repeat' (first | refine Wl.assignE (by conv => { lhs; whnf }) ?_ | refine Wl.nil ?_ | refine Wl.lenS rfl ?_ | refine Qseq.normal ?_))
                have lbk : labq (bs.getD k 0) = some (k, 0) := hbsk ▸ ka9.lb
                have hbk : ∀ w', Chg (fun b => labq b = some (k, 2)) w9 w' → Bk w' (bs.getD k 0) tKn [vs kq.name, pvq, .slice kp kq.kids.length kc] := fun w' hw => kb9.chg hw (fun e => by rw [lbk] at e; cases e)
                have hx5 := hwq.kg.lab_none (b := w5.heap.size) (.inl (Nat.le_refl _))
                have hbn : ∀ w', Chg (fun b => labq b = some (k, 2)) w9 w' → Bk w' w5.heap.size 37 [vi y.parent, vs y.name, ypv] := fun w' hw => bn9.chg hw (fun e => by rw [hx5] at e; cases e)
                refine Wc.regionT rfl (by kernel_rfl) (fun w' => Chg (fun b => labq b = some (k, 2)) w9 w') (Chg.drew _ _) ?_
                intro w10 n10
                (repeat' (first | refine Wt.quiet rfl (Wq.moveE (by conv => { lhs; whnf }) (Wq.nil ?_)) | refine Wt.quiet rfl (Wq.nilP rfl (Wq.nil ?_)) | refine Wt.quiet rfl (Wq.fieldAddr rfl rfl (Wq.nil ?_))))
                refine Wt.quiet rfl (Wq.load1 rfl (fun w' hw => (hbk w' hw).cell (o := 2) rfl) (Wq.nil ?_))
                (repeat' (refine Wt.quiet rfl (Wq.fieldAddr rfl rfl (Wq.nil ?_))))
                refine Wt.quiet rfl (Wq.load1 rfl (fun w' hw => (hbn w' hw).cell (o := 1) rfl) (Wq.nil ?_))
                skip
                refine Wt.chain rfl (Wl.buildF (ps := [(0, .tmp 120)]) (parts := [(0, vs y.name)]) rfl rfl (by simp [Value.cells]) ?_)
                refine Wl.nil ⟨rfl, n10.any, ?_⟩
                refine Wt.chain rfl (Wl.box rfl fun w11 b11 n11 s11 => ?_)
                have n911 := New.trans n10 n11
                refine Wl.nil ⟨rfl, n911.any, ?_⟩
                replace b11 : Bk w11 w10.heap.size tKn [vs y.name, .slice none 0 0, .slice none 0 0] := b11
                refine Wt.chain rfl (Wl.buildSlice1 (R := one ptrV) (y := w10.heap.size) (Pe := No) (good_one _ fun _ => rfl) rfl rfl rfl rfl (by omega) (by omega) fun vt w12 ot n12 s12 hobt => ?_)
                have n912 := New.trans n911 n12
                refine Wl.nil ⟨rfl, n912.any, ?_⟩
                have ka12 := ka9.chg n912 (fun _ e => e.elim)
                have kk12 : OwnKids (fun x => labq x = some (k, 2)) w12 (.slice kp kq.kids.length kc) (kq.kids.map fun j => (bs ++ bsq).getD j 0) := ka12.kd
                refine Wt.chain rfl (Wl.appendAll (good_one _ fun _ => rfl) kk12 (ot.rd (mono_one _)) (fun y cs hy => hy) rfl rfl (by omega) (by simp only [maxLen, List.length_singleton, List.length_map]; omega) (by simp only [List.length_singleton, List.length_map]; omega) fun kv13 w13 o13 c13 lie _ => ?_)
                have c913 : Chg (fun b => labq b = some (k, 2)) w9 w13 := Chg.trans n912.any c13 (fun b _ e => (kk12.lt e).1)
                refine Wl.nil ⟨rfl, c913, ?_⟩
                (repeat' (first | refine Wt.quiet rfl (Wq.nilP rfl (Wq.nil ?_)) | refine Wt.quiet rfl (Wq.fieldAddr rfl rfl (Wq.nil ?_))))
                have h13 : kv13.oneCell' = true := by obtain ⟨_, _, rfl, _⟩ := o13.form; rfl
                refine Wt.last rfl (Wl.store1 (hbk w13 c913) rfl (show (2 : Nat) < 3 by omega) rfl h13 fun w14 b14 c14 => ?_)
                replace b14 : Bk w14 (bs.getD k 0) tKn [vs kq.name, pvq, kv13] := b14
                have kg10 := kg9.new n10
                have lo10 : lo ≤ w10.heap.size := by have := c09.size; have := n10.size; have := hw.sz; omega
                obtain ⟨lab12, kg12, hl12⟩ := kg10.push (name := y.name) (props := []) (pv := .slice none 0 0) lo10 (New.trans n11 n12) (Nat.le_refl _) (b11.chg n12 id) OwnS.nil
                have hbl8 := hw8.bk.lt
                have s9 := c9.size
                have s10 := n10.size
                have hlenq := hwq.kg.len
                have hGk : (Gq ++ [(⟨y.name, [], []⟩ : Kn)])[k]? = some kq := by rw [List.getElem?_append_left hkq]; exact hkq'
                have hgetk : (bs ++ bsq ++ [w10.heap.size]).getD k 0 = bs.getD k 0 := by
                  rw [List.getD_eq_getElem?_getD, List.getElem?_append_left (by omega), ← List.getD_eq_getElem?_getD, hbsk]
                have hgetn : (bs ++ bsq ++ [w10.heap.size]).getD Gq.length 0 = w10.heap.size := by
                  rw [List.getD_eq_getElem?_getD, List.getElem?_append_right (by omega), hlenq, Nat.sub_self]; rfl
                have hold12 : ∀ b q', labq b = some (k, q') → lab12 b = some (k, q') := fun b q' e => (hl12 b (by have := (kg9.low b _ e).2.1; omega)).trans e
                have lo12 : lo ≤ w12.heap.size := by have := n11.size; have := n12.size; omega
                have cT : Chg (fun b => ∃ q, lab12 b = some (k, q)) w12 w14 := Chg.trans (c13.mono fun b _ e => ⟨2, hold12 b 2 (kk12.lt e).1⟩) c14 fun b _ e => ⟨0, by rw [e]; exact hold12 _ 0 lbk⟩
                have o14 := o13.chg (plain_one _) c14 (fun b e1 e2 => by
                  rcases (o13.lt e1).1 with h1 | h1
                  · rw [e2, lbk] at h1; cases h1
                  · have := kb9.lt; have := n11.size; have := n12.size; omega)
                have kp12 : OwnPr (fun x => labq x = some (k, 1)) w12 pvq kq.props := ka12.pr
                have kp14 := (kp12.chg plainPr c13 (fun b e1 e2 => by have h1 := (kp12.lt e1).1; rw [(kk12.lt e2).1] at h1; cases h1)).chg plainPr c14 (fun b e1 e2 => by have h1 := (kp12.lt e1).1; rw [e2, lbk] at h1; cases h1)
                have sp : Sep pvq kv13 := fun b e1 e2 => by
                  have h1 := kp12.lt e1
                  rcases (o13.lt e2).1 with h2 | h2
                  · rw [h1.1] at h2; cases h2
                  · omega
                have hkids : (kq.kids ++ [Gq.length]).map (fun j => (bs ++ bsq ++ [w10.heap.size]).getD j 0) = kq.kids.map (fun j => (bs ++ bsq).getD j 0) ++ [w10.heap.size] := by
                  rw [List.map_append, List.map_singleton, hgetn]
                  congr 1
                  apply List.map_congr_left
                  intro j hj
                  have := (hw7.kg.kid k kq hkq' j hj).2
                  rw [List.getD_eq_getElem?_getD, List.getElem?_append_left (by omega), ← List.getD_eq_getElem?_getD]
                obtain ⟨lab14, kg14, hl14⟩ := kg12.set (i := k) (k' := { kq with kids := kq.kids ++ [Gq.length] }) (pv' := pvq) (kv' := kv13) lo12 hGk cT (by rw [hgetk]; exact b14) (kp14.mono (mono_flat pC) (fun b _ e => .inl (hold12 b 1 e)) (fun _ _ e => e)) (by
                  dsimp only
                  rw [hkids]
                  exact o14.mono (mono_one _) (fun b _ e => e.imp (hold12 b 2) id) (fun _ _ e => e)) sp (fun j hj => by
                  simp only [List.mem_append, List.mem_singleton, List.length_append, List.length_singleton] at hj ⊢
                  rcases hj with hj | rfl
                  · have := hw7.kg.kid k kq hkq' j hj; omega
                  · omega) (by
                  rw [List.nodup_append]
                  refine ⟨hw7.kg.nd k kq hkq', by simp, fun a ha b hb e => ?_⟩
                  simp at hb
                  have := (hw7.kg.kid k kq hkq' a ha).2
                  omega)
                have hadd : addKid (Gq ++ [⟨y.name, [], []⟩]) k Gq.length = (Gq ++ [(⟨y.name, [], []⟩ : Kn)]).set k { kq with kids := kq.kids ++ [Gq.length] } := by
                  unfold addKid; rw [hGk]
                rw [← hadd] at kg14
                have c1014 : LayC bl labq w9 w14 := Chg.trans (c913.mono fun b _ e => .inr (by rw [e]; simp)) c14 fun b _ e => .inr (by rw [e, lbk]; simp)
                have c014 : LayC bl lab w w14 := Chg.trans c09 c1014 fun b hb e => e.imp id fun e => by rw [← hlq b hb]; exact e
                have hl914 : ∀ b, b < w9.heap.size → lab14 b = labq b := fun b hb => (hl14 b (by have := n11.size; have := n12.size; omega)).trans (hl12 b (by omega))
                have hw14 : LayW lo bl lab14 w14 (bs ++ (bsq ++ [w10.heap.size])) (addKid (Gq ++ [⟨y.name, [], []⟩]) k Gq.length) (.slice pa pn.length pc) pn (cq + 1) := by
                  refine ⟨by rw [← List.append_assoc]; exact kg14, ?_, ⟨hw.bln.1, ?_⟩, hw.rd.keep stableNd (keepP w14 c014), ?_, fun i' y' hy' => ?_, Nat.le_trans hw.sz c014.size⟩
                  · exact (b9.chg c913 (fun e => hnk 2 e)).chg c14 (fun e => by rw [← e] at lbk; exact hnk 0 lbk)
                  · rw [hl914 bl (by omega)]; exact hw8.bln.2
                  · rw [addKid_length]; simp only [List.length_append, List.length_singleton]; omega
                  · rw [hadd, List.getElem?_set] at hy'
                    split at hy'
                    · split at hy'
                      · simp only [Option.some.injEq] at hy'
                        subst hy'; exact hw7.pl k kq hkq'
                      · cases hy'
                    · rw [List.getElem?_append] at hy'
                      split at hy'
                      · exact hw7.pl i' y' hy'
                      · rw [List.getElem?_singleton] at hy'
                        split at hy'
                        · cases hy'; simp
                        · cases hy'
                have hlG : (addKid (Gq ++ [(⟨y.name, [], []⟩ : Kn)]) k Gq.length).length = Gq.length + 1 := by rw [addKid_length]; simp
                obtain ⟨kp2, kc2, hkv2, hkc3, hkc4⟩ := o14.form
                simp only [List.length_append, List.length_map, List.length_singleton] at hkv2 hkc3
                subst hkv2
                (repeat' (first | refine Wl.moveE (by conv => { lhs; whnf }) ?_ | refine Wl.nil ?_ | refine Qseq.normal ?_ | refine Wc.seq ?_ | refine Wc.region ?_ | refine Wl.nilP rfl ?_ | refine Wl.fieldAddr rfl rfl ?_))
                refine Wl.load1 rfl (b14.cell (o := 2) rfl) ?_
                (repeat' (refine Wl.moveE (by conv => { lhs; whnf }) ?_))
                refine Wl.idxAddrV (o14.rd (mono_one _)) rfl rfl (by omega) (y := w10.heap.size) (by
                  rw [Int.toNat_natCast, List.getElem?_append_right (by simp), List.length_map, Nat.sub_self]; rfl) fun b2 o2 hc2 => ?_
                refine Wl.load1 rfl hc2 ?_
                (repeat' (refine Wl.moveE (by conv => { lhs; whnf }) ?_))
                have hih := ih Gq.length q _ (cq + 1) w14 (bs ++ (bsq ++ [w10.heap.size])) lab14 (by omega) (by omega) (by omega) (by omega) hw14
                rw [← List.append_assoc, hgetn] at hih
                refine Wl.call hih rfl ?_
                rintro _ w15 ⟨rfl, c15, hok⟩
                have c015 : LayC bl lab w w15 := Chg.trans c014 c15 fun b hb e => e.imp id fun e => by rw [← hlq b hb, ← hl914 b (by have := c09.size; omega)]; exact e
                generalize layG pn f Gq.length q (addKid (Gq ++ [⟨y.name, [], []⟩]) k Gq.length) (cq + 1) = R at hres hok
                obtain ⟨ok, G', c'⟩ := R
                cases ok with
                | false =>
                  dsimp only at hres
                  subst hres
                  (repeat' (first | refine Wl.assignE (by conv => { lhs; whnf }) ?_ | refine Wl.nil ?_ | refine Wl.notB rfl ?_ | refine Qseq.normal ?_ | refine Wc.seq ?_ | refine Wc.region ?_ | refine Wc.ret ?_ | refine Qseq.ret ?_ | refine Qblk.ret ?_ | refine Qloop.ret ?_ | refine Wc.condT rfl ?_))
                  exact Qfn.ret1 rfl rfl ⟨_, rfl, rfl, c015, fun e => by cases e⟩
                | true =>
                  dsimp only at hres hok
                  obtain ⟨lab', bs', hw15, hc15, hl15⟩ := hok rfl
                  have hlen15 := hw15.kg.len
                  simp only [List.length_append, List.length_singleton] at hlen15
                  rw [List.length_append] at hlenq
                  (repeat' (first | refine Wl.moveE (by conv => { lhs; whnf }) ?_ | refine Wl.assignE (by conv => { lhs; whnf }) ?_ | refine Wl.nil ?_ | refine Wl.notB rfl ?_ | refine Qseq.normal ?_ | refine Wc.region ?_ | refine Wc.skip ?_ | refine Qblk.normal ?_ | refine Wc.condF rfl ?_ | refine Wl.add rfl rfl (by omega) (by omega) ?_))
                  exact Qloop.normal (q + 1, G', c', lab', bsq ++ [w10.heap.size] ++ bs') ⟨rfl, rfl, rfl, rfl, trivial⟩ ⟨by dsimp only; omega, by dsimp only; omega, hres, by dsimp only; omega, by dsimp only; simpa only [List.append_assoc] using hw15, hc15, fun b hb => (hl15 b (by have := c014.size; omega)).trans ((hl914 b (by have := c09.size; omega)).trans (hlq b hb)), c015⟩ (by dsimp only; omega)
            · rw [hsome] at hres
              rw [e]
              dsimp only at hres
              (repeat' (first | refine Wl.moveE (by conv => { lhs; whnf }) ?_ | refine Wl.assignE (by conv => { lhs; whnf }) ?_ | refine Wl.nil ?_ | refine Qseq.normal ?_ | refine Wc.seq ?_ | refine Wc.region ?_ | refine Wc.skip ?_ | refine Wc.condF rfl ?_ | refine Wl.nilP rfl ?_ | refine Wl.fieldAddr rfl rfl ?_ | (refine Wl.lss rfl rfl (fun _ => ?_) (fun _ => ?_) <;> (first | (exfalso; omega) | skip))))
              refine Wl.load1 rfl (kbq8.cell (o := 2) rfl) ?_
              have hjk := hw7.kg.kid k kq hkq' j (List.mem_of_getElem? hij)
              have hil : i < kq.kids.length := (List.getElem?_eq_some_iff.1 hij).1
              (repeat' (refine Wl.moveE (by conv => { lhs; whnf }) ?_))
              refine Wl.idxAddrV ((kaq.kd.new (plain_one _) n8).rd (mono_one _)) rfl rfl (by omega) (y := (bs ++ bsq).getD j 0) (by rw [List.getElem?_map]; show Option.map _ kq.kids[i]? = _; rw [hij]; rfl) fun b2 o2 hc2 => ?_
              refine Wl.load1 rfl hc2 ?_
              (repeat' (refine Wl.moveE (by conv => { lhs; whnf }) ?_))
              refine Wl.call (ih j q Gq cq w8 (bs ++ bsq) labq hjk.2 (by omega) (by omega) hcq hw8) rfl ?_
              rintro _ w9 ⟨rfl, c9, hok⟩
              have c09 : LayC bl lab w w9 := Chg.trans c08 c9 fun b hb e => e.imp id fun e => by rw [← hlq b hb]; exact e
              generalize layG pn f j q Gq cq = R at hres hok
              obtain ⟨ok, G', c'⟩ := R
              cases ok with
              | false =>
                dsimp only at hres
                subst hres
                (repeat' (first | refine Wl.assignE (by conv => { lhs; whnf }) ?_ | refine Wl.nil ?_ | refine Wl.notB rfl ?_ | refine Qseq.normal ?_ | refine Wc.seq ?_ | refine Wc.region ?_ | refine Wc.ret ?_ | refine Qseq.ret ?_ | refine Qblk.ret ?_ | refine Qloop.ret ?_ | refine Wc.condT rfl ?_))
                exact Qfn.ret1 rfl rfl ⟨_, rfl, rfl, c09, fun e => by cases e⟩
              | true =>
                dsimp only at hres hok
                obtain ⟨lab', bs', hw9, hc9, hl9⟩ := hok rfl
                have hlen9 := hw9.kg.len
                have hlenq := hwq.kg.len
                rw [List.length_append] at hlen9
                (repeat' (first | refine Wl.moveE (by conv => { lhs; whnf }) ?_ | refine Wl.assignE (by conv => { lhs; whnf }) ?_ | refine Wl.nil ?_ | refine Wl.notB rfl ?_ | refine Qseq.normal ?_ | refine Wc.region ?_ | refine Wc.skip ?_ | refine Qblk.normal ?_ | refine Wc.condF rfl ?_ | refine Wl.add rfl rfl (by omega) (by omega) ?_))
                exact Qloop.normal (q + 1, G', c', lab', bsq ++ bs') ⟨rfl, rfl, rfl, rfl, trivial⟩ ⟨by dsimp only; omega, by dsimp only; omega, hres, by dsimp only; omega, by dsimp only; rw [← List.append_assoc]; exact hw9, hc9, fun b hb => (hl9 b (by have := c08.size; omega)).trans (hlq b hb), c09⟩ (by dsimp only; omega)
        · have e : q = pn.length := by omega
          subst e
          rw [List.drop_eq_nil_of_le (by simp)] at hres
          simp only [layLoop] at hres
          subst hres
          exact Qfn.ret1 rfl rfl ⟨_, rfl, rfl, c5, fun _ => ⟨labq, bsq, hwq, hcq, hlq⟩⟩
end Go.Proofs.YtjpebmgllfiloaaDoor

namespace Go.Proofs.YtjpebmgllfiloaaDoor
open Go Wk

inductive T where
  | mk (name : List UInt8) (props : List Pr) (kids : List T)
def T.name : T → List UInt8 | .mk n _ _ => n
def T.props : T → List Pr | .mk _ p _ => p
def T.kids : T → List T | .mk _ _ k => k

mutual
def szT : T → Nat
  | .mk _ _ ks => 1 + szK ks
def szK : List T → Nat
  | [] => 0
  | t :: ts => szT t + szK ts
end
/-! The nodes of a tree, in preorder; its first one stands at a place, beneath another. -/
mutual
def flT : T → Int → Nat → List Nd
  | .mk nm ps ks, up, b => ⟨up, nm, ps⟩ :: flK ks b (b + 1)
def flK : List T → Nat → Nat → List Nd
  | [], _, _ => []
  | t :: ts, u, b => flT t (u : Int) b ++ flK ts u (b + szT t)
end
theorem szT_pos (t : T) : 0 < szT t := by cases t; simp only [szT]; omega
mutual
theorem flT_length : ∀ (t : T) (up : Int) (b : Nat), (flT t up b).length = szT t
  | .mk nm ps ks, up, b => by simp only [flT, szT, List.length_cons, flK_length ks]; omega
theorem flK_length : ∀ (ks : List T) (u b : Nat), (flK ks u b).length = szK ks
  | [], _, _ => rfl
  | t :: ts, u, b => by simp only [flK, szK, List.length_append, flT_length t, flK_length ts]
end
theorem flT_head (t : T) (up : Int) (b : Nat) : ∃ r, flT t up b = ⟨up, t.name, t.props⟩ :: r := by cases t; exact ⟨_, rfl⟩
/-! The parents of what lies. -/
mutual
theorem flT_par : ∀ (t : T) (up : Int) (b : Nat) (r : List Nd), flT t up b = ⟨up, t.name, t.props⟩ :: r → ∀ x ∈ r, (b : Int) ≤ x.parent ∧ x.parent < b + szT t
  | .mk nm ps ks, up, b, r, h, x, hx => by
    simp only [flT, List.cons.injEq] at h
    obtain ⟨_, rfl⟩ := h
    have := flK_par ks b (b + 1) (by omega) x hx
    simp only [szT]; omega
theorem flK_par : ∀ (ks : List T) (u b : Nat), u < b → ∀ x ∈ flK ks u b, x.parent = u ∨ (b : Int) ≤ x.parent ∧ x.parent < b + szK ks
  | [], _, _, _, x, hx => by simp [flK] at hx
  | t :: ts, u, b, hu, x, hx => by
    simp only [flK, List.mem_append] at hx
    simp only [szK]
    rcases hx with hx | hx
    · obtain ⟨r, hr⟩ := flT_head t (u : Int) b
      rw [hr, List.mem_cons] at hx
      rcases hx with rfl | hx
      · exact .inl rfl
      · have := flT_par t u b r hr x hx; right; omega
    · rcases flK_par ts u (b + szT t) (by omega) x hx with h | h
      · exact .inl h
      · right; omega
end

/-! The knots of a tree. -/
mutual
def Is (G : List Kn) : T → Nat → List Nat → Prop
  | .mk nm ps ks, i, ids => ∃ kk r, G[i]? = some ⟨nm, ps, kk⟩ ∧ ids = i :: r ∧ IsL G ks kk r
def IsL (G : List Kn) : List T → List Nat → List Nat → Prop
  | [], l, ids => l = [] ∧ ids = []
  | t :: ts, l, ids => ∃ j r a b, l = j :: r ∧ ids = a ++ b ∧ Is G t j a ∧ IsL G ts r b
end
mutual
theorem Is.frame {G G' : List Kn} : ∀ {τ : T} {i : Nat} {ids : List Nat}, Is G τ i ids → (∀ x ∈ ids, G'[x]? = G[x]?) → Is G' τ i ids
  | .mk nm ps ks, i, ids, h, hf => by
    simp only [Is] at h ⊢
    obtain ⟨kk, r, h1, rfl, h2⟩ := h
    exact ⟨kk, r, (hf i (by simp)).trans h1, rfl, h2.frame fun x hx => hf x (by simp [hx])⟩
theorem IsL.frame {G G' : List Kn} : ∀ {ks : List T} {l ids : List Nat}, IsL G ks l ids → (∀ x ∈ ids, G'[x]? = G[x]?) → IsL G' ks l ids
  | [], l, ids, h, _ => h
  | t :: ts, l, ids, h, hf => by
    simp only [IsL] at h ⊢
    obtain ⟨j, r, a, b, rfl, rfl, h1, h2⟩ := h
    exact ⟨j, r, a, b, rfl, rfl, h1.frame fun x hx => hf x (by simp [hx]), h2.frame fun x hx => hf x (by simp [hx])⟩
end
theorem Is.head {G : List Kn} {τ : T} {i : Nat} {ids : List Nat} (h : Is G τ i ids) : i ∈ ids := by
  cases τ
  simp only [Is] at h
  obtain ⟨_, _, _, rfl, _⟩ := h
  simp
theorem Is.get {G : List Kn} {τ : T} {i : Nat} {ids : List Nat} (h : Is G τ i ids) : ∃ kk, G[i]? = some ⟨τ.name, τ.props, kk⟩ := by
  cases τ
  simp only [Is] at h
  obtain ⟨kk, _, h, _, _⟩ := h
  exact ⟨kk, h⟩
mutual
theorem Is.length {G : List Kn} : ∀ {τ : T} {i : Nat} {ids : List Nat}, Is G τ i ids → ids.length = szT τ
  | .mk nm ps ks, i, ids, h => by
    simp only [Is] at h
    obtain ⟨kk, r, h1, rfl, h2⟩ := h
    have := h2.length
    simp only [szT, List.length_cons]; omega
theorem IsL.length {G : List Kn} : ∀ {ks : List T} {l ids : List Nat}, IsL G ks l ids → ids.length = szK ks
  | [], l, ids, h => by simp only [IsL] at h; rw [h.2]; rfl
  | t :: ts, l, ids, h => by
    simp only [IsL] at h
    obtain ⟨j, r, a, b, rfl, rfl, h1, h2⟩ := h
    rw [List.length_append, h1.length, h2.length]; rfl
end
theorem IsL.append {G : List Kn} : ∀ {k1 k2 : List T} {l1 l2 a b : List Nat}, IsL G k1 l1 a → IsL G k2 l2 b → IsL G (k1 ++ k2) (l1 ++ l2) (a ++ b)
  | [], k2, l1, l2, a, b, h1, h2 => by
    simp only [IsL] at h1
    obtain ⟨rfl, rfl⟩ := h1
    simpa using h2
  | t :: ts, k2, l1, l2, a, b, h1, h2 => by
    simp only [IsL] at h1
    obtain ⟨j, r, a1, a2, rfl, rfl, h3, h4⟩ := h1
    have := h4.append h2
    simp only [List.cons_append, IsL]
    exact ⟨j, r ++ l2, a1, a2 ++ b, rfl, by simp, h3, this⟩
theorem IsL.split {G : List Kn} : ∀ {k1 k2 : List T} {l ids : List Nat}, IsL G (k1 ++ k2) l ids → ∃ l1 l2 a b, l = l1 ++ l2 ∧ ids = a ++ b ∧ IsL G k1 l1 a ∧ IsL G k2 l2 b ∧ l1.length = k1.length
  | [], k2, l, ids, h => ⟨[], l, [], ids, rfl, rfl, by simp [IsL], h, rfl⟩
  | t :: ts, k2, l, ids, h => by
    simp only [List.cons_append, IsL] at h
    obtain ⟨j, r, a, b, rfl, rfl, h1, h2⟩ := h
    obtain ⟨l1, l2, a', b', rfl, rfl, h3, h4, h5⟩ := h2.split
    exact ⟨j :: l1, l2, a ++ a', b', rfl, by simp, by simp only [IsL]; exact ⟨j, l1, a, a', rfl, rfl, h1, h3⟩, h4, by simp [h5]⟩
theorem IsL.names {G : List Kn} : ∀ {ks : List T} {l ids : List Nat} {i j : Nat} {t : T}, IsL G ks l ids → ks[i]? = some t → l[i]? = some j → ∃ kk, G[j]? = some ⟨t.name, t.props, kk⟩
  | [], _, _, i, j, t, _, h, _ => by simp at h
  | s :: ts, l, ids, i, j, t, h, h1, h2 => by
    simp only [IsL] at h
    obtain ⟨j', r, a, b, rfl, rfl, h3, h4⟩ := h
    cases i with
    | zero => simp at h1 h2; subst h1; subst h2; exact h3.get
    | succ i => exact h4.names (by simpa using h1) (by simpa using h2)

/-! flat of knots that are a tree's. -/
mutual
theorem flatG_is {G : List Kn} : ∀ (τ : T) (i : Nat) (ids : List Nat) (f : Nat) (up : Int) (acc : List Nd), Is G τ i ids → szT τ ≤ f → flatG G f i up acc = acc ++ flT τ up acc.length
  | .mk nm ps ks, i, ids, 0, up, acc, h, hf => by simp only [szT] at hf; omega
  | .mk nm ps ks, i, ids, f + 1, up, acc, h, hf => by
    simp only [Is] at h
    obtain ⟨kk, r, hG, rfl, hl⟩ := h
    rw [flatG, hG]
    dsimp only
    rw [flatG_isL ks kk r f acc.length _ hl (by simp only [szT] at hf; omega)]
    simp [flT]
theorem flatG_isL {G : List Kn} : ∀ (ks : List T) (kk ids : List Nat) (f u : Nat) (acc : List Nd), IsL G ks kk ids → szK ks ≤ f → kk.foldl (fun a j => flatG G f j (u : Int) a) acc = acc ++ flK ks u acc.length
  | [], kk, ids, f, u, acc, h, _ => by simp only [IsL] at h; rw [h.1]; simp [flK]
  | t :: ts, kk, ids, f, u, acc, h, hf => by
    simp only [IsL] at h
    obtain ⟨j, r, a, b, rfl, rfl, h1, h2⟩ := h
    simp only [szK] at hf
    rw [List.foldl_cons, flatG_is t j a f u acc h1 (by omega), flatG_isL ts r b f u _ h2 (by omega)]
    simp only [flK, List.append_assoc, List.length_append, flT_length]
end

/-! Knots of a list of nodes that lies so. -/
def kpos : List T → Nat → List Nat
  | [], _ => []
  | t :: ts, b => b :: kpos ts (b + szT t)
mutual
def ndsT : T → Nat → List Kn
  | .mk nm ps ks, b => ⟨nm, ps, kpos ks (b + 1)⟩ :: ndsK ks (b + 1)
def ndsK : List T → Nat → List Kn
  | [], _ => []
  | t :: ts, b => ndsT t b ++ ndsK ts (b + szT t)
end
mutual
theorem ndsT_length : ∀ (t : T) (b : Nat), (ndsT t b).length = szT t
  | .mk nm ps ks, b => by simp only [ndsT, szT, List.length_cons, ndsK_length ks]; omega
theorem ndsK_length : ∀ (ks : List T) (b : Nat), (ndsK ks b).length = szK ks
  | [], _ => rfl
  | t :: ts, b => by simp only [ndsK, szK, List.length_append, ndsT_length t, ndsK_length ts]
end
def addKids (G : List Kn) (p : Nat) (l : List Nat) : List Kn := match G[p]? with | some k => G.set p { k with kids := k.kids ++ l } | none => G
theorem addKids_length (G : List Kn) (p : Nat) (l : List Nat) : (addKids G p l).length = G.length := by unfold addKids; split <;> simp
theorem addKids_app (G H : List Kn) (p : Nat) (l : List Nat) (hp : p < G.length) : addKids (G ++ H) p l = addKids G p l ++ H := by
  obtain ⟨k, hk⟩ := get_lt G hp
  unfold addKids
  rw [List.getElem?_append_left hp, hk]
  exact List.set_append_left _ _ hp
theorem addKids_nil (G : List Kn) (p : Nat) : addKids G p [] = G := by
  unfold addKids
  split
  · rename_i k hk
    obtain ⟨h1, h2⟩ := List.getElem?_eq_some_iff.1 hk
    rw [List.append_nil]
    show G.set p k = G
    rw [← h2]; exact List.set_getElem_self h1
  · rfl
theorem addKids_two (G : List Kn) (p : Nat) (l m : List Nat) : addKids (addKids G p l) p m = addKids G p (l ++ m) := by
  cases h : G[p]? with
  | none => unfold addKids; simp [h]
  | some k =>
    have hl := (List.getElem?_eq_some_iff.1 h).1
    unfold addKids
    simp only [h]
    rw [List.getElem?_set, if_pos rfl, if_pos hl]
    simp [List.set_set]
theorem addKids_last {G : List Kn} {b : Nat} {nm : List UInt8} {ps : List Pr} {l : List Nat} (hb : G.length = b) : addKids (G ++ [⟨nm, ps, []⟩]) b l = G ++ [⟨nm, ps, l⟩] := by
  subst hb
  unfold addKids
  rw [List.getElem?_append_right (Nat.le_refl _)]
  simp
theorem addKid_eq (G : List Kn) (p j : Nat) : addKid G p j = addKids G p [j] := rfl
mutual
theorem knots_T : ∀ (τ : T) (G : List Kn) (u : Nat), u < G.length → (flT τ u G.length).foldl addN G = addKids G u [G.length] ++ ndsT τ G.length
  | .mk nm ps ks, G, u, hu => by
    have hne : G.length ≠ 0 := by omega
    simp only [flT, List.foldl_cons]
    unfold addN
    rw [if_neg hne]
    dsimp only
    rw [addKid_eq, Int.toNat_natCast, addKids_app _ _ _ _ hu]
    have hl : (addKids G u [G.length] ++ [(⟨nm, ps, []⟩ : Kn)]).length = G.length + 1 := by simp [addKids_length]
    have := knots_K ks (addKids G u [G.length] ++ [⟨nm, ps, []⟩]) G.length (by omega)
    rw [hl] at this
    change List.foldl addN _ _ = _ at this
    refine Eq.trans this ?_
    rw [addKids_last (by rw [addKids_length])]
    simp [ndsT]
theorem knots_K : ∀ (ks : List T) (G : List Kn) (u : Nat), u < G.length → (flK ks u G.length).foldl addN G = addKids G u (kpos ks G.length) ++ ndsK ks G.length
  | [], G, u, hu => by simp [flK, kpos, ndsK, addKids_nil]
  | t :: ts, G, u, hu => by
    simp only [flK, List.foldl_append, kpos, ndsK]
    rw [knots_T t G u hu]
    have hl : (addKids G u [G.length] ++ ndsT t G.length).length = G.length + szT t := by simp [addKids_length, ndsT_length]
    have := knots_K ts (addKids G u [G.length] ++ ndsT t G.length) u (by omega)
    rw [hl] at this
    rw [this, addKids_app _ _ _ _ (by rw [addKids_length]; exact hu), addKids_two]
    simp
end
/-- They are the tree's. -/
def GetsAt (H : List Kn) (b : Nat) (L : List Kn) : Prop := ∀ (i : Nat) (k : Kn), L[i]? = some k → H[b + i]? = some k
theorem GetsAt.left {H : List Kn} {b : Nat} {L M : List Kn} (h : GetsAt H b (L ++ M)) : GetsAt H b L := fun i k hk => h i k (by rw [List.getElem?_append_left (List.getElem?_eq_some_iff.1 hk).1]; exact hk)
theorem GetsAt.right {H : List Kn} {b : Nat} {L M : List Kn} (h : GetsAt H b (L ++ M)) : GetsAt H (b + L.length) M := fun i k hk => by
  have := h (L.length + i) k (by rw [List.getElem?_append_right (by omega), Nat.add_sub_cancel_left]; exact hk)
  rwa [← Nat.add_assoc] at this
mutual
theorem is_nds {H : List Kn} : ∀ (τ : T) (b : Nat), GetsAt H b (ndsT τ b) → Is H τ b (List.range' b (szT τ))
  | .mk nm ps ks, b, h => by
    simp only [ndsT] at h
    have h0 := h 0 _ rfl
    rw [Nat.add_zero] at h0
    have h1 : GetsAt H (b + 1) (ndsK ks (b + 1)) := GetsAt.right (L := [⟨nm, ps, kpos ks (b + 1)⟩]) h
    simp only [Is, szT]
    refine ⟨_, List.range' (b + 1) (szK ks), h0, ?_, isL_nds ks (b + 1) h1⟩
    rw [Nat.add_comm 1, List.range'_succ]
theorem isL_nds {H : List Kn} : ∀ (ks : List T) (b : Nat), GetsAt H b (ndsK ks b) → IsL H ks (kpos ks b) (List.range' b (szK ks))
  | [], b, _ => by simp [IsL, kpos, szK]
  | t :: ts, b, h => by
    simp only [ndsK] at h
    have h2 := h.right
    rw [ndsT_length] at h2
    simp only [IsL, kpos, szK]
    refine ⟨b, kpos ts (b + szT t), List.range' b (szT t), List.range' (b + szT t) (szK ts), rfl, ?_, is_nds t b h.left, isL_nds ts (b + szT t) h2⟩
    rw [← List.range'_append_1]
end
theorem knotsM_T (τ : T) : knotsM (flT τ (-1) 0) = ndsT τ 0 := by
  cases τ with
  | mk nm ps ks =>
    unfold knotsM
    simp only [flT, List.foldl_cons]
    unfold addN
    simp only [List.length_nil, if_true, List.nil_append]
    have := knots_K ks [⟨nm, ps, []⟩] 0 (by simp)
    simp only [List.length_singleton] at this
    change List.foldl addN _ _ = _ at this
    refine Eq.trans this ?_
    have e := addKids_last (G := []) (b := 0) (nm := nm) (ps := ps) (l := kpos ks 1) rfl
    simp only [List.nil_append] at e
    rw [e]
    simp [ndsT]
theorem knotsM_is (τ : T) : Is (knotsM (flT τ (-1) 0)) τ 0 (List.range (szT τ)) := by
  rw [knotsM_T, List.range_eq_range']
  exact is_nds τ 0 fun i k hk => by rwa [Nat.zero_add]
end Go.Proofs.YtjpebmgllfiloaaDoor

namespace Go.Proofs.YtjpebmgllfiloaaDoor
open Go Wk

def insK (g : T → T) (nm : List UInt8) : List T → List T
  | [] => [g (.mk nm [] [])]
  | k :: ks => if k.name = nm then g k :: ks else k :: insK g nm ks
mutual
def layT : T → T → T
  | .mk _ qs js, .mk nm ps ks => .mk nm (qs.foldl setPr ps) (layK js ks)
def layK : List T → List T → List T
  | [], ks => ks
  | j :: js, ks => layK js (insK (layT j) j.name ks)
end
mutual
def bigT : T → Bool
  | .mk _ ps ks => decide (32 < ps.length) || bigK ks
def bigK : List T → Bool
  | [] => false
  | t :: ts => bigT t || bigK ts
end
theorem layT_name (π τ : T) : (layT π τ).name = τ.name := by cases π; cases τ; rfl
theorem szK_append : ∀ (a b : List T), szK (a ++ b) = szK a + szK b
  | [], b => by simp [szK]
  | t :: ts, b => by simp only [List.cons_append, szK, szK_append ts b]; omega
theorem bigK_append : ∀ (a b : List T), bigK (a ++ b) = (bigK a || bigK b)
  | [], b => by simp [bigK]
  | t :: ts, b => by simp only [List.cons_append, bigK, bigK_append ts b, Bool.or_assoc]
/-- A name among kids: the first of it, or none. -/
theorem insK_cases (g : T → T) (nm : List UInt8) : ∀ (ks : List T), (∃ k1 t k2, ks = k1 ++ t :: k2 ∧ (∀ x ∈ k1, x.name ≠ nm) ∧ t.name = nm ∧ insK g nm ks = k1 ++ g t :: k2) ∨ ((∀ x ∈ ks, x.name ≠ nm) ∧ insK g nm ks = ks ++ [g (.mk nm [] [])])
  | [] => .inr ⟨by simp, rfl⟩
  | k :: ks => by
    unfold insK
    by_cases h : k.name = nm
    · rw [if_pos h]; exact .inl ⟨[], k, ks, rfl, by simp, h, rfl⟩
    · rw [if_neg h]
      rcases insK_cases g nm ks with ⟨k1, t, k2, rfl, h1, h2, h3⟩ | ⟨h1, h2⟩
      · exact .inl ⟨k :: k1, t, k2, rfl, by simpa [h] using h1, h2, by rw [h3]; rfl⟩
      · exact .inr ⟨by simpa [h] using h1, by rw [h2]; rfl⟩
mutual
theorem layT_mono : ∀ (π τ : T), szT τ ≤ szT (layT π τ) ∧ (bigT τ = true → bigT (layT π τ) = true)
  | .mk _ qs js, .mk nm ps ks => by
    have h := layK_mono js ks
    have h2 := foldl_setPr_length qs ps
    simp only [layT, szT, bigT, Bool.or_eq_true, decide_eq_true_eq]
    refine ⟨by omega, ?_⟩
    rintro (h3 | h3)
    · left; omega
    · exact .inr (h.2 h3)
theorem layK_mono : ∀ (js ks : List T), szK ks ≤ szK (layK js ks) ∧ (bigK ks = true → bigK (layK js ks) = true)
  | [], ks => by simp [layK]
  | j :: js, ks => by
    have h := layK_mono js (insK (layT j) j.name ks)
    rw [layK]
    rcases insK_cases (layT j) j.name ks with ⟨k1, t, k2, e, _, _, h3⟩ | ⟨_, h3⟩
    · have h4 := layT_mono j t
      rw [h3] at h ⊢
      subst e
      simp only [szK_append, szK, bigK_append, bigK, Bool.or_eq_true] at h ⊢
      refine ⟨by omega, fun h5 => h.2 ?_⟩
      rcases h5 with h5 | h5 | h5
      · exact .inl h5
      · exact .inr (.inl (h4.2 h5))
      · exact .inr (.inr h5)
    · have h4 := layT_mono j (.mk j.name [] [])
      rw [h3] at h ⊢
      simp only [szK_append, szK, bigK_append, bigK, Bool.or_eq_true] at h ⊢
      exact ⟨by omega, fun h5 => h.2 (.inl h5)⟩
end

/-! Over knots. -/
theorem find_none {G : List Kn} {nm : List UInt8} {P : Nat → Bool} (hP : ∀ j x, G[j]? = some x → P j = decide (x.name = nm)) : ∀ {ks : List T} {l ids : List Nat}, IsL G ks l ids → (∀ x ∈ ks, x.name ≠ nm) → l.find? P = none
  | [], l, ids, h, _ => by simp only [IsL] at h; rw [h.1]; rfl
  | t :: ts, l, ids, h, hn => by
    simp only [IsL] at h
    obtain ⟨j, r, a, b, rfl, rfl, h1, h2⟩ := h
    obtain ⟨kk, hk⟩ := h1.get
    rw [List.find?_cons, hP j _ hk]
    simp only [decide_eq_false (hn t (by simp))]
    exact find_none hP h2 fun x hx => hn x (by simp [hx])
theorem kidIdx_none {G : List Kn} {k : Nat} {nm nm0 : List UInt8} {ps : List Pr} {kk r : List Nat} {ks : List T} (hk : G[k]? = some ⟨nm0, ps, kk⟩) (h : IsL G ks kk r) (hn : ∀ x ∈ ks, x.name ≠ nm) : kidIdx G k nm = none := by
  unfold kidIdx; rw [hk]
  exact find_none (fun j x hx => by simp only [hx]) h hn
theorem kidIdx_some {G : List Kn} {k j : Nat} {nm nm0 : List UInt8} {ps : List Pr} {l1 l2 a b : List Nat} {k1 : List T} {t : T} (hk : G[k]? = some ⟨nm0, ps, l1 ++ j :: l2⟩) (h : IsL G k1 l1 a) (hn : ∀ x ∈ k1, x.name ≠ nm) (ht : Is G t j b) (htn : t.name = nm) : kidIdx G k nm = some j := by
  unfold kidIdx; rw [hk]
  dsimp only
  obtain ⟨kk, hj⟩ := ht.get
  rw [List.find?_append, find_none (nm := nm) (fun j x hx => by simp only [hx]) h hn, Option.none_or, List.find?_cons, hj]
  simp only [htn, decide_true]
/-- What may have come of knots. -/
structure Grew (G G' : List Kn) (ids ids' : List Nat) : Prop where
  len : G.length ≤ G'.length
  nd : ids'.Nodup
  new : ∀ x ∈ ids', x ∈ ids ∨ (G.length ≤ x ∧ x < G'.length)
  old : ∀ x, x < G.length → x ∉ ids → G'[x]? = G[x]?
theorem layLoop_skip (pn : List Nd) (k n : Nat) (rec : Nat → Nat → List Kn → Int → LayR) (G : List Kn) (c : Int) : ∀ (m q : Nat), (∀ i x, q ≤ i → i < q + m → pn[i]? = some x → x.parent ≠ (n : Int)) →
    layLoop pn k n rec ((List.range pn.length).drop q) G c = layLoop pn k n rec ((List.range pn.length).drop (q + m)) G c
  | 0, q, _ => rfl
  | m + 1, q, h => by
    by_cases hq : q < pn.length
    · obtain ⟨x, hx⟩ := get_lt pn hq
      have hdr : (List.range pn.length).drop q = q :: (List.range pn.length).drop (q + 1) := drop_cons (by rw [List.getElem?_range hq])
      rw [hdr, layLoop, hx]
      dsimp only
      rw [if_pos (h q x (Nat.le_refl _) (by omega) hx), layLoop_skip pn k n rec G c m (q + 1) fun i x h1 h2 h3 => h i x (by omega) (by omega) h3]
      congr 2; omega
    · rw [List.drop_eq_nil_of_le (by simp; omega), List.drop_eq_nil_of_le (by simp; omega)]
theorem drop_get {α : Type} {l m : List α} {q i : Nat} (h : l.drop q = m) : l[q + i]? = m[i]? := by rw [← h, List.getElem?_drop]
/-- Behind the nodes of a tree stands nothing that hangs on it. -/
def Off (n m : Nat) (rest : List Nd) : Prop := ∀ x ∈ rest, x.parent < n ∨ (n + m : Int) ≤ x.parent
theorem nodup_mid {a b b' c : List Nat} {m : Nat} (h : (a ++ (b ++ c)).Nodup) (hb' : b'.Nodup) (hlt : ∀ x ∈ a ++ (b ++ c), x < m) (hn : ∀ x ∈ b', x ∈ b ∨ m ≤ x) : (a ++ (b' ++ c)).Nodup := by
  simp only [List.nodup_append, List.mem_append, ne_eq] at h hlt ⊢
  obtain ⟨ha, ⟨hb, hc, hbc⟩, hd⟩ := h
  refine ⟨ha, ⟨hb', hc, fun x hx y hy e => ?_⟩, fun x hx y hy e => ?_⟩
  · subst e
    rcases hn x hx with h1 | h1
    · exact hbc x h1 x hy rfl
    · have := hlt x (.inr (.inr hy)); omega
  · subst e
    rcases hy with hy | hy
    · rcases hn x hy with h1 | h1
      · exact hd x hx x (.inl h1) rfl
      · have := hlt x (.inl hx); omega
    · exact hd x hx x (.inr hy) rfl
mutual
theorem layG_is {pn : List Nd} : ∀ (π : T) (n : Nat) (up : Int) (rest : List Nd) (f k : Nat) (G : List Kn) (τ : T) (ids : List Nat),
    pn.drop n = flT π up n ++ rest → Off n (szT π) rest → szT π ≤ f → Is G τ k ids → ids.Nodup → (∀ x ∈ ids, x < G.length) →
    ∀ r, layG pn f k n G (G.length : Int) = r →
    (r.1 = true → ∃ ids', Is r.2.1 (layT π τ) k ids' ∧ Grew G r.2.1 ids ids' ∧ r.2.2 = (r.2.1.length : Int) ∧ r.2.1.length + szT τ = G.length + szT (layT π τ)) ∧
    (r.1 = false → bigT (layT π τ) = true ∨ 512 + szT τ < G.length + szT (layT π τ))
  | .mk nm qs js, n, up, rest, 0, k, G, τ, ids, _, _, hf, _, _, _, _, _ => by simp only [szT] at hf; omega
  | .mk pnm qs js, n, up, rest, f + 1, k, G, .mk nm ps ks, ids, hpn, hoff, hf, his, hnd, hlt, r, hr => by
    simp only [Is] at his
    obtain ⟨kk, r0, hk, rfl, hl⟩ := his
    have hkl : k < G.length := hlt k (by simp)
    have hx : pn[n]? = some ⟨up, pnm, qs⟩ := by
      have := drop_get (i := 0) hpn
      simpa [flT] using this
    rw [layG, hk, hx] at hr
    dsimp only at hr
    have hset : (G.set k ⟨nm, qs.foldl setPr ps, kk⟩)[k]? = some ⟨nm, qs.foldl setPr ps, kk⟩ := by rw [List.getElem?_set, if_pos rfl, if_pos hkl]
    have hother : ∀ x, x ≠ k → (G.set k (⟨nm, qs.foldl setPr ps, kk⟩ : Kn))[x]? = G[x]? := fun x hx => by rw [List.getElem?_set, if_neg (fun e => hx e.symm)]
    by_cases hps : 32 < (qs.foldl setPr ps).length
    · rw [if_pos hps] at hr
      subst hr
      exact ⟨fun e => (by cases e), fun _ => .inl (by simp only [layT, bigT, hps, decide_true, Bool.true_or])⟩
    · rw [if_neg hps] at hr
      have hdr : pn.drop (n + 1) = flK js n (n + 1) ++ rest := by
        have := congrArg (List.drop 1) hpn
        simpa [flT, List.drop_drop] using this
      have hlf : IsL (G.set k ⟨nm, qs.foldl setPr ps, kk⟩) ks kk r0 := hl.frame fun x hx => hother x fun e => by
        subst e; exact (List.nodup_cons.1 hnd).1 hx
      have := layLoop_is js (n + 1) n rest f k _ nm (qs.foldl setPr ps) kk ks r0 hdr (by omega) (by
        simp only [szT] at hoff
        intro x hx
        rcases hoff x hx with h | h
        · exact ⟨by omega, by left; omega⟩
        · exact ⟨by omega, by right; omega⟩) (by simp only [szT] at hf; omega) hset hlf hnd (by simpa using hlt) r (by rw [List.length_set]; exact hr)
      rw [List.length_set] at this
      obtain ⟨h1, h2⟩ := this
      refine ⟨fun e => ?_, fun e => ?_⟩
      · obtain ⟨kk', r', h3, h4, h5, h6, h7⟩ := h1 e
        refine ⟨k :: r', ?_, ⟨?_, h5.nd, ?_, fun x hx hn => ?_⟩, h6, by simp only [layT, szT]; omega⟩
        · simp only [layT, Is]
          exact ⟨kk', r', h3, rfl, h4⟩
        · have := h5.len; simpa using this
        · have := h5.new; simpa using this
        · rw [h5.old x (by simpa using hx) hn]
          exact hother x fun e => hn (by simp [e])
      · rcases h2 e with h3 | h3
        · exact .inl (by simp only [layT, bigT, h3, Bool.or_true])
        · right; simp only [layT, szT]; omega
theorem layLoop_is {pn : List Nd} : ∀ (πs : List T) (q n : Nat) (rest : List Nd) (f k : Nat) (G : List Kn) (nm : List UInt8) (ps : List Pr) (kk : List Nat) (ks : List T) (r0 : List Nat),
    pn.drop q = flK πs n q ++ rest → n < q → (∀ x ∈ rest, x.parent ≠ n ∧ (x.parent < q ∨ (q + szK πs : Int) ≤ x.parent)) → szK πs ≤ f → G[k]? = some ⟨nm, ps, kk⟩ → IsL G ks kk r0 → (k :: r0).Nodup → (∀ x ∈ k :: r0, x < G.length) →
    ∀ r, layLoop pn k n (fun j i G c => layG pn f j i G c) ((List.range pn.length).drop q) G (G.length : Int) = r →
    (r.1 = true → ∃ kk' r', r.2.1[k]? = some ⟨nm, ps, kk'⟩ ∧ IsL r.2.1 (layK πs ks) kk' r' ∧ Grew G r.2.1 (k :: r0) (k :: r') ∧ r.2.2 = (r.2.1.length : Int) ∧ r.2.1.length + szK ks = G.length + szK (layK πs ks)) ∧
    (r.1 = false → bigK (layK πs ks) = true ∨ 512 + szK ks < G.length + szK (layK πs ks))
  | [], q, n, rest, f, k, G, nm, ps, kk, ks, r0, hpn, hn, hrest, hf, hk, hl, hnd, hlt, r, hr => by
    simp only [flK, List.nil_append] at hpn
    have hs := layLoop_skip pn k n (fun j i G c => layG pn f j i G c) G (G.length : Int) rest.length q fun i x h1 h2 h3 => by
      have h4 := drop_get (i := i - q) hpn
      rw [Nat.add_sub_cancel' h1, h3] at h4
      exact (hrest x (List.mem_of_getElem? h4.symm)).1
    have hlen : pn.length ≤ q + rest.length := by rw [← hpn, List.length_drop]; omega
    rw [hs, List.drop_eq_nil_of_le (by simpa using hlen), layLoop] at hr
    subst hr
    exact ⟨fun _ => ⟨kk, r0, hk, by rw [layK]; exact hl, ⟨Nat.le_refl _, hnd, fun x hx => .inl hx, fun _ _ _ => rfl⟩, rfl, by rw [layK]⟩, fun e => by cases e⟩
  | π :: πs, q, n, rest, f, k, G, nm, ps, kk, ks, r0, hpn, hn, hrest, hf, hk, hl, hnd, hlt, r, hr => by
    simp only [flK, List.append_assoc] at hpn
    simp only [szK] at hf hrest
    have hszp := szT_pos π
    obtain ⟨fr, hfr⟩ := flT_head π (n : Int) q
    have hx : pn[q]? = some ⟨n, π.name, π.props⟩ := by
      have := drop_get (i := 0) hpn
      simpa [hfr] using this
    have hql : q < pn.length := (List.getElem?_eq_some_iff.1 hx).1
    have hdr : (List.range pn.length).drop q = q :: (List.range pn.length).drop (q + 1) := drop_cons (by rw [List.getElem?_range hql])
    rw [hdr, layLoop, hx] at hr
    dsimp only at hr
    rw [if_neg (by simp)] at hr
    have hoff : Off q (szT π) (flK πs n (q + szT π) ++ rest) := by
      intro x hx
      rcases List.mem_append.1 hx with hx | hx
      · rcases flK_par πs n (q + szT π) (by omega) x hx with h | h
        · left; omega
        · right; omega
      · rcases (hrest x hx).2 with h | h
        · left; exact h
        · right; omega
    have hdr2 : pn.drop (q + szT π) = flK πs n (q + szT π) ++ rest := by
      have := congrArg (List.drop (szT π)) hpn
      rw [List.drop_drop, List.drop_append_of_le_length (by rw [flT_length]; exact Nat.le_refl _), List.drop_eq_nil_of_le (show (flT π (n : Int) q).length ≤ szT π by rw [flT_length]; exact Nat.le_refl _), List.nil_append] at this
      exact this
    have hskip : ∀ G' c', layLoop pn k n (fun j i G c => layG pn f j i G c) ((List.range pn.length).drop (q + 1)) G' c' = layLoop pn k n (fun j i G c => layG pn f j i G c) ((List.range pn.length).drop (q + szT π)) G' c' := fun G' c' => by
      have hs := layLoop_skip pn k n (fun j i G c => layG pn f j i G c) G' c' (szT π - 1) (q + 1) fun i x h1 h2 h3 => by
        have h4 := drop_get (i := i - q) hpn
        rw [Nat.add_sub_cancel' (by omega), h3, List.getElem?_append_left (by rw [flT_length]; omega), hfr] at h4
        obtain ⟨m, hm⟩ : ∃ m, i - q = m + 1 := ⟨i - q - 1, by omega⟩
        rw [hm, List.getElem?_cons_succ] at h4
        have := flT_par π n q fr hfr x (List.mem_of_getElem? h4.symm)
        omega
      rw [hs]; congr 2; omega
    have hrest2 : ∀ x ∈ rest, x.parent ≠ n ∧ (x.parent < ((q + szT π : Nat) : Int) ∨ ((q + szT π : Nat) + szK πs : Int) ≤ x.parent) := fun x hx => ⟨(hrest x hx).1, by
      rcases (hrest x hx).2 with h | h
      · left; omega
      · right; omega⟩
    rw [layK]
    rcases insK_cases (layT π) π.name ks with ⟨k1, t, k2, rfl, hno, htn, hins⟩ | ⟨hno, hins⟩
    · obtain ⟨l1, l2', a, bc, rfl, rfl, i1, i2, _⟩ := hl.split
      simp only [IsL] at i2
      obtain ⟨j, l2, b, c, rfl, rfl, ij, i3⟩ := i2
      rw [kidIdx_some hk i1 hno ij htn] at hr
      dsimp only at hr
      have hnd' := List.nodup_cons.1 hnd
      have hbn : b.Nodup := by have := hnd'.2; simp only [List.nodup_append] at this; exact this.2.1.1
      have hrec := layG_is π q n _ f j G t b hpn hoff (by omega) ij hbn (fun x hx => hlt x (by simp [hx])) _ rfl
      generalize hres : layG pn f j q G (G.length : Int) = R at hr hrec
      obtain ⟨ok, G', c'⟩ := R
      rw [hins]
      cases ok with
      | false =>
        dsimp only at hr hrec
        subst hr
        refine ⟨fun e => (by cases e), fun _ => ?_⟩
        have hm := layK_mono πs (k1 ++ layT π t :: k2)
        simp only [szK_append, szK, bigK_append, bigK, Bool.or_eq_true] at hm ⊢
        rcases hrec.2 rfl with h | h
        · exact .inl (hm.2 (.inr (.inl h)))
        · right; omega
      | true =>
        dsimp only at hr hrec
        obtain ⟨b', ib', gr, rfl, hsz⟩ := hrec.1 rfl
        rw [hskip] at hr
        have hold : ∀ x, x ∈ k :: (a ++ (b ++ c)) → x ∉ b → G'[x]? = G[x]? := fun x hx hb => gr.old x (hlt x hx) hb
        have hkb : k ∉ b := fun e => hnd'.1 (by simp [e])
        have hab : ∀ x ∈ a, x ∉ b := fun x hx hb => by
          have := hnd'.2
          simp only [List.nodup_append, List.mem_append] at this
          exact this.2.2 x hx x (.inl hb) rfl
        have hcb : ∀ x ∈ c, x ∉ b := fun x hx hb => by
          have := hnd'.2
          simp only [List.nodup_append, List.mem_append] at this
          exact this.2.1.2.2 x hb x hx rfl
        have hk' : G'[k]? = some ⟨nm, ps, l1 ++ j :: l2⟩ := (hold k (by simp) hkb).trans hk
        have hl' : IsL G' (k1 ++ layT π t :: k2) (l1 ++ j :: l2) (a ++ (b' ++ c)) := by
          refine (i1.frame fun x hx => hold x (by simp [hx]) (hab x hx)).append ?_
          simp only [IsL]
          exact ⟨j, l2, b', c, rfl, rfl, ib', i3.frame fun x hx => hold x (by simp [hx]) (hcb x hx)⟩
        have hnew : ∀ x ∈ b', x ∈ b ∨ G.length ≤ x := fun x hx => (gr.new x hx).imp id (·.1)
        have hnd2 : (k :: (a ++ (b' ++ c))).Nodup := by
          refine List.nodup_cons.2 ⟨fun hx => ?_, nodup_mid hnd'.2 gr.nd (fun x hx => hlt x (by simp only [List.mem_cons]; exact .inr hx)) hnew⟩
          simp only [List.mem_append] at hx
          rcases hx with hx | hx | hx
          · exact hnd'.1 (by simp [hx])
          · rcases hnew k hx with h | h
            · exact hkb h
            · have := hlt k (by simp); omega
          · exact hnd'.1 (by simp [hx])
        have hlt2 : ∀ x ∈ k :: (a ++ (b' ++ c)), x < G'.length := fun x hx => by
          have hlen := gr.len
          simp only [List.mem_cons, List.mem_append] at hx
          rcases hx with hx | hx | hx | hx
          · have := hlt x (by simp [hx]); omega
          · have := hlt x (by simp [hx]); omega
          · rcases gr.new x hx with h | h
            · have := hlt x (by simp [h]); omega
            · exact h.2
          · have := hlt x (by simp [hx]); omega
        have ih := layLoop_is πs (q + szT π) n rest f k G' nm ps (l1 ++ j :: l2) (k1 ++ layT π t :: k2) (a ++ (b' ++ c)) hdr2 (by omega) hrest2 (by omega) hk' hl' hnd2 hlt2 r hr
        refine ⟨fun e => ?_, fun e => ?_⟩
        · obtain ⟨kk', r', h1, h2, h3, h4, h5⟩ := ih.1 e
          refine ⟨kk', r', h1, h2, ⟨Nat.le_trans gr.len h3.len, h3.nd, fun x hx => ?_, fun x hx hn' => ?_⟩, h4, ?_⟩
          · rcases h3.new x hx with h | h
            · simp only [List.mem_cons, List.mem_append] at h ⊢
              rcases h with h | h | h | h
              · exact .inl (.inl h)
              · exact .inl (.inr (.inl h))
              · rcases gr.new x h with h' | h'
                · exact .inl (.inr (.inr (.inl h')))
                · have := h3.len; right; omega
              · exact .inl (.inr (.inr (.inr h)))
            · have := gr.len; right; omega
          · simp only [List.mem_cons, List.mem_append, not_or] at hn'
            rw [h3.old x (by have := gr.len; omega) (by
              simp only [List.mem_cons, List.mem_append, not_or]
              refine ⟨hn'.1, hn'.2.1, fun h => ?_, hn'.2.2.2⟩
              rcases hnew x h with h' | h'
              · exact hn'.2.2.1 h'
              · omega), gr.old x hx hn'.2.2.1]
          · simp only [szK_append, szK] at h5 ⊢; omega
        · rcases ih.2 e with h | h
          · exact .inl h
          · right; simp only [szK_append, szK] at h ⊢; omega
    · rw [kidIdx_none hk hl hno] at hr
      dsimp only at hr
      rw [hins]
      have hm := layK_mono πs (ks ++ [layT π (.mk π.name [] [])])
      have hm2 := (layT_mono π (.mk π.name [] [])).1
      simp only [szT, szK] at hm2
      by_cases hc : (512 : Int) < (G.length : Int) + 1
      · rw [if_pos hc] at hr
        subst hr
        refine ⟨fun e => (by cases e), fun _ => .inr ?_⟩
        simp only [szK_append, szK] at hm ⊢
        omega
      · rw [if_neg hc] at hr
        have hkl : k < G.length := hlt k (by simp)
        have hkidl : (addKid (G ++ [(⟨π.name, [], []⟩ : Kn)]) k G.length).length = G.length + 1 := by rw [addKid_length]; simp
        have hG1k : (addKid (G ++ [(⟨π.name, [], []⟩ : Kn)]) k G.length)[k]? = some ⟨nm, ps, kk ++ [G.length]⟩ := by
          unfold addKid
          rw [List.getElem?_append_left hkl, hk]
          dsimp only
          rw [List.getElem?_set, if_pos rfl, if_pos (by simp; omega)]
        have hG1o : ∀ x, x ≠ k → x < G.length → (addKid (G ++ [(⟨π.name, [], []⟩ : Kn)]) k G.length)[x]? = G[x]? := fun x hx hlx => by
          unfold addKid
          rw [List.getElem?_append_left hkl, hk]
          dsimp only
          rw [List.getElem?_set, if_neg (fun e => hx e.symm), List.getElem?_append_left hlx]
        have hG1n : (addKid (G ++ [(⟨π.name, [], []⟩ : Kn)]) k G.length)[G.length]? = some ⟨π.name, [], []⟩ := by
          unfold addKid
          rw [List.getElem?_append_left hkl, hk]
          dsimp only
          rw [List.getElem?_set, if_neg (by omega), List.getElem?_append_right (Nat.le_refl _)]; simp
        generalize hG1 : addKid (G ++ [(⟨π.name, [], []⟩ : Kn)]) k G.length = G1 at hr hkidl hG1k hG1o hG1n
        have hnd' := List.nodup_cons.1 hnd
        have his1 : Is G1 (.mk π.name [] []) G.length [G.length] := by
          simp only [Is]
          exact ⟨[], [], hG1n, rfl, by simp [IsL]⟩
        have hrec := layG_is π q n _ f G.length G1 (.mk π.name [] []) [G.length] hpn hoff (by omega) his1 (by simp) (by simp [hkidl]) _ rfl
        rw [show (G.length : Int) + 1 = (G1.length : Int) by rw [hkidl]; rfl] at hr
        generalize hres : layG pn f G.length q G1 (G1.length : Int) = R at hr hrec
        obtain ⟨ok, G', c'⟩ := R
        cases ok with
        | false =>
          dsimp only at hr hrec
          subst hr
          refine ⟨fun e => (by cases e), fun _ => ?_⟩
          simp only [szK_append, szK, bigK_append, bigK, Bool.or_eq_true, szT] at hm hrec ⊢
          rcases hrec.2 trivial with h | h
          · exact .inl (hm.2 (.inr (.inl h)))
          · right; omega
        | true =>
          dsimp only at hr hrec
          obtain ⟨b', ib', gr, rfl, hsz⟩ := hrec.1 rfl
          rw [hskip] at hr
          have hge : ∀ x ∈ b', G.length ≤ x := fun x hx => by
            rcases gr.new x hx with h | h
            · simp at h; omega
            · omega
          have hold : ∀ x, x ≠ k → x < G.length → G'[x]? = G[x]? := fun x hx hlx => (gr.old x (by omega) (by simp; omega)).trans (hG1o x hx hlx)
          have hk' : G'[k]? = some ⟨nm, ps, kk ++ [G.length]⟩ := (gr.old k (by omega) (by simp; omega)).trans hG1k
          have hl' : IsL G' (ks ++ [layT π (.mk π.name [] [])]) (kk ++ [G.length]) (r0 ++ b') := by
            refine (hl.frame fun x hx => hold x (fun e => hnd'.1 (e ▸ hx)) (hlt x (by simp [hx]))).append ?_
            simp only [IsL]
            exact ⟨G.length, [], b', [], rfl, by simp, ib', rfl, rfl⟩
          have hnd2 : (k :: (r0 ++ b')).Nodup := by
            refine List.nodup_cons.2 ⟨fun hx => ?_, List.nodup_append.2 ⟨hnd'.2, gr.nd, fun x hx y hy e => ?_⟩⟩
            · rcases List.mem_append.1 hx with h | h
              · exact hnd'.1 h
              · have := hge k h; omega
            · subst e
              have h1 := hlt x (by simp [hx])
              have h2 := hge x hy
              omega
          have hlt2 : ∀ x ∈ k :: (r0 ++ b'), x < G'.length := fun x hx => by
            have hlen := gr.len
            simp only [List.mem_cons, List.mem_append] at hx
            rcases hx with hx | hx | hx
            · have := hlt x (by simp [hx]); omega
            · have := hlt x (by simp [hx]); omega
            · rcases gr.new x hx with h | h
              · simp at h; omega
              · exact h.2
          have ih := layLoop_is πs (q + szT π) n rest f k G' nm ps (kk ++ [G.length]) (ks ++ [layT π (.mk π.name [] [])]) (r0 ++ b') hdr2 (by omega) hrest2 (by omega) hk' hl' hnd2 hlt2 r hr
          have hlen := gr.len
          refine ⟨fun e => ?_, fun e => ?_⟩
          · obtain ⟨kk', r', h1, h2, h3, h4, h5⟩ := ih.1 e
            have hlen3 := h3.len
            refine ⟨kk', r', h1, h2, ⟨by omega, h3.nd, fun x hx => ?_, fun x hx hn' => ?_⟩, h4, ?_⟩
            · rcases h3.new x hx with h | h
              · simp only [List.mem_cons, List.mem_append] at h ⊢
                rcases h with h | h | h
                · exact .inl (.inl h)
                · exact .inl (.inr h)
                · have h6 := hge x h
                  have h7 := hlt2 x (by simp [h])
                  right; omega
              · right; omega
            · simp only [List.mem_cons, not_or] at hn'
              rw [h3.old x (by omega) (by
                simp only [List.mem_cons, List.mem_append, not_or]
                exact ⟨hn'.1, hn'.2, fun h => by have := hge x h; omega⟩), hold x hn'.1 hx]
            · simp only [szK_append, szK, szT] at h5 hsz ⊢; omega
          · rcases ih.2 e with h | h
            · exact .inl h
            · right; simp only [szK_append, szK, szT] at h hsz ⊢; omega
end
end Go.Proofs.YtjpebmgllfiloaaDoor

namespace Go.Proofs.YtjpebmgllfiloaaDoor
open Go Wk

mutual
def okT : Nat → T → Bool
  | d, .mk _ ps ks => propsOk ps && (decide (d ≤ 16) && okK (d + 1) [] ks)
def okK : Nat → List (List UInt8) → List T → Bool
  | _, _, [] => true
  | d, seen, k :: ks => nameOk k.name && (!seen.contains k.name && (okT d k && okK d (seen ++ [k.name]) ks))
end
def okTree (τ : T) : Bool := decide (τ.name = []) && (decide (szT τ ≤ 512) && okT 1 τ)
theorem getD_left {α : Type} {l m : List α} {i : Nat} {z : α} (h : i < l.length) : (l ++ m).getD i z = l.getD i z := by
  rw [List.getD_eq_getElem?_getD, List.getElem?_append_left h, ← List.getD_eq_getElem?_getD]
theorem getD_last {α : Type} {l : List α} {x z : α} {i : Nat} (h : l.length = i) : (l ++ [x]).getD i z = x := by
  subst h; rw [List.getD_eq_getElem?_getD, List.getElem?_append_right (Nat.le_refl _)]; simp
theorem getD_take {α : Type} {l m : List α} {i d : Nat} {z : α} (h : l.take d = m.take d) (hi : i < d) : l.getD i z = m.getD i z := by
  have := congrArg (fun q => q[i]?) h
  simp only [List.getElem?_take, if_pos hi] at this
  rw [List.getD_eq_getElem?_getD, this, ← List.getD_eq_getElem?_getD]
mutual
theorem chk_T : ∀ (t : T) (u b d : Nat) (seen : List (List UInt8)) (dp pt : List Int) (sn : List Kid) (rest : List Nd),
    b + szT t ≤ 512 → dp.length = b → u < b → dp.getD u 0 = (d : Int) → 1 ≤ d → d ≤ pt.length → pt.getD (d - 1) 0 = (u : Int) → (∀ nm, sn.contains ((u : Int), nm) = seen.contains nm) → (∀ p ∈ sn, p.1 < (b : Int)) →
    ((nameOk t.name && (!seen.contains t.name && okT (d + 1) t)) = true → ∃ dp2 pt2 sn2, chkGo b dp pt sn (flT t u b ++ rest) = chkGo (b + szT t) (dp ++ dp2) pt2 (sn ++ (((u : Int), t.name) :: sn2)) rest ∧ dp2.length = szT t ∧ pt2.take d = pt.take d ∧ d ≤ pt2.length ∧ ∀ p ∈ sn2, (b : Int) ≤ p.1 ∧ p.1 < b + szT t) ∧
    ((nameOk t.name && (!seen.contains t.name && okT (d + 1) t)) = false → (chkGo b dp pt sn (flT t u b ++ rest)).2 = none)
  | .mk nm ps ks, u, b, d, seen, dp, pt, sn, rest, hsz, hdl, hu, hdu, hd1, hdp, hpt, hsn, hsb => by
    simp only [szT] at hsz
    simp only [flT, List.cons_append, T.name]
    rw [chkGo]
    have htn : ((u : Int)).toNat = u := Int.toNat_natCast u
    have htd : ((d : Int) - 1).toNat = d - 1 := by omega
    have htd' : ((d : Int)).toNat = d := Int.toNat_natCast d
    simp only [htn, hdu, htd, htd', hpt, hsn]
    cases hpo : propsOk ps with
    | false =>
      rw [if_pos (.inr rfl)]
      exact ⟨fun h => by simp [okT, hpo] at h, fun _ => rfl⟩
    | true =>
      rw [if_neg (by simp; omega), if_neg (by omega)]
      cases hno : nameOk nm with
      | false =>
        rw [if_pos (.inl rfl)]
        exact ⟨fun h => by simp at h, fun _ => rfl⟩
      | true =>
        rw [if_neg (by simp; omega)]
        cases hse : seen.contains nm with
        | true =>
          rw [if_pos (.inr (.inr (.inr rfl)))]
          exact ⟨fun h => by simp at h, fun _ => rfl⟩
        | false =>
          by_cases h16 : d + 1 ≤ 16
          · rw [if_neg (by simp; omega)]
            have hdl' : (dp ++ [(d : Int) + 1]).length = b + 1 := by simp [hdl]
            have hk := chk_K ks b (b + 1) (d + 1) [] (dp ++ [(d : Int) + 1]) (pt.take d ++ [(b : Int)]) (sn ++ [((u : Int), nm)]) rest (by omega) hdl' (by omega) (by rw [getD_last hdl]; rfl) (by omega) (by simp; omega) (by
              rw [Nat.add_sub_cancel, getD_last (by simp; omega)]) (fun x => by
              rw [Bool.eq_iff_iff]
              simp only [List.contains_iff_mem, List.mem_append, List.mem_singleton, Prod.mk.injEq, List.not_mem_nil, iff_false, not_or]
              exact ⟨fun h => by have := hsb _ h; simp only at this; omega, fun h => by omega⟩) (fun p hp => by
              rcases List.mem_append.1 hp with h | h
              · have := hsb p h; omega
              · simp at h; subst h; simp only; omega)
            have e1 : ((true && (!false && okT (d + 1) (.mk nm ps ks))) : Bool) = okK (d + 1 + 1) [] ks := by simp only [okT, hpo, decide_eq_true h16, Bool.not_false, Bool.true_and]
            rw [e1]
            refine ⟨fun h => ?_, hk.2⟩
            obtain ⟨dp2, pt2, sn2, h1, h2, h3, h4, h5⟩ := hk.1 h
            refine ⟨((d : Int) + 1) :: dp2, pt2, sn2, ?_, by simp only [List.length_cons, szT, h2]; omega, ?_, by omega, fun p hp => by
              rcases h5 p hp with h | h
              · simp only [szT]; omega
              · simp only [szT]; omega⟩
            · rw [h1]
              simp only [szT, List.append_assoc, List.singleton_append]
              congr 1; omega
            · have := congrArg (List.take d) h3
              rw [List.take_take, Nat.min_eq_left (by omega), List.take_take, Nat.min_eq_left (by omega), List.take_append_of_le_length (by simp; omega), List.take_take, Nat.min_self] at this
              exact this
          · rw [if_pos (.inr (.inr (.inl (by omega))))]
            exact ⟨fun h => by simp [okT, h16] at h, fun _ => rfl⟩
theorem chk_K : ∀ (ks : List T) (u b d : Nat) (seen : List (List UInt8)) (dp pt : List Int) (sn : List Kid) (rest : List Nd),
    b + szK ks ≤ 512 → dp.length = b → u < b → dp.getD u 0 = (d : Int) → 1 ≤ d → d ≤ pt.length → pt.getD (d - 1) 0 = (u : Int) → (∀ nm, sn.contains ((u : Int), nm) = seen.contains nm) → (∀ p ∈ sn, p.1 < (b : Int)) →
    (okK (d + 1) seen ks = true → ∃ dp2 pt2 sn2, chkGo b dp pt sn (flK ks u b ++ rest) = chkGo (b + szK ks) (dp ++ dp2) pt2 (sn ++ sn2) rest ∧ dp2.length = szK ks ∧ pt2.take d = pt.take d ∧ d ≤ pt2.length ∧ ∀ p ∈ sn2, p.1 = (u : Int) ∨ (b : Int) ≤ p.1 ∧ p.1 < b + szK ks) ∧
    (okK (d + 1) seen ks = false → (chkGo b dp pt sn (flK ks u b ++ rest)).2 = none)
  | [], u, b, d, seen, dp, pt, sn, rest, hsz, hdl, hu, hdu, hd1, hdp, hpt, hsn, hsb =>
    ⟨fun _ => ⟨[], pt, [], by simp [flK, szK], rfl, rfl, hdp, by simp⟩, fun h => by simp [okK] at h⟩
  | t :: ts, u, b, d, seen, dp, pt, sn, rest, hsz, hdl, hu, hdu, hd1, hdp, hpt, hsn, hsb => by
    simp only [szK] at hsz
    simp only [flK, List.append_assoc]
    have hT := chk_T t u b d seen dp pt sn (flK ts u (b + szT t) ++ rest) (by omega) hdl hu hdu hd1 hdp hpt hsn hsb
    have e : okK (d + 1) seen (t :: ts) = ((nameOk t.name && (!seen.contains t.name && okT (d + 1) t)) && okK (d + 1) (seen ++ [t.name]) ts) := by
      simp only [okK, Bool.and_assoc]
    rw [e]
    cases h1 : (nameOk t.name && (!seen.contains t.name && okT (d + 1) t)) with
    | false => exact ⟨fun h => by simp at h, fun _ => hT.2 h1⟩
    | true =>
      rw [Bool.true_and]
      obtain ⟨dp2, pt2, sn2, g1, g2, g3, g4, g5⟩ := hT.1 h1
      rw [g1]
      have hK := chk_K ts u (b + szT t) d (seen ++ [t.name]) (dp ++ dp2) pt2 (sn ++ (((u : Int), t.name) :: sn2)) rest (by omega) (by rw [List.length_append, hdl, g2]) (by omega) (by rw [getD_left (by omega)]; exact hdu) hd1 g4 (by
        rw [getD_take g3 (by omega)]; exact hpt) (fun x => by
        rw [Bool.eq_iff_iff]
        have := hsn x
        rw [Bool.eq_iff_iff] at this
        simp only [List.contains_iff_mem, List.mem_append, List.mem_cons, List.not_mem_nil, Prod.mk.injEq, true_and, or_false] at this ⊢
        constructor
        · rintro (h | h | h)
          · exact .inl (this.1 h)
          · exact .inr h
          · have := (g5 _ h).1; simp only at this; omega
        · rintro (h | h)
          · exact .inl (this.2 h)
          · exact .inr (.inl h)) (fun p hp => by
        simp only [List.mem_append, List.mem_cons] at hp
        rcases hp with h | rfl | h
        · have := hsb p h; omega
        · simp only; omega
        · have := (g5 p h).2; omega)
      refine ⟨fun h => ?_, hK.2⟩
      obtain ⟨dp3, pt3, sn3, k1, k2, k3, k4, k5⟩ := hK.1 h
      refine ⟨dp2 ++ dp3, pt3, ((u : Int), t.name) :: sn2 ++ sn3, ?_, by simp only [List.length_append, szK, g2, k2], k3.trans g3, k4, fun p hp => ?_⟩
      · rw [k1]
        simp only [szK, List.append_assoc, List.cons_append]
        congr 1; omega
      · simp only [List.cons_append, List.mem_cons, List.mem_append] at hp
        simp only [szK]
        rcases hp with rfl | h | h
        · exact .inl rfl
        · have := g5 p h; right; omega
        · rcases k5 p h with h | h
          · exact .inl h
          · right; omega
end
theorem treeOk_flT (τ : T) : treeOk (flT τ (-1) 0) = okTree τ := by
  by_cases hsz : szT τ ≤ 512
  · cases τ with
    | mk nm ps ks =>
      unfold treeOk okTree
      simp only [flT, T.name, List.length_cons]
      rw [chkGo]
      simp only [szT] at hsz
      cases hpo : propsOk ps with
      | false => rw [if_pos (.inr rfl)]; simp [okT, hpo]
      | true =>
        rw [if_neg (by simp), if_pos rfl]
        by_cases hn : nm = []
        · subst hn
          rw [if_neg (by simp)]
          have h := chk_K ks 0 1 1 [] [1] [0] [] [] (by omega) rfl (by omega) rfl (by omega) (by simp) rfl (by simp) (by simp)
          rw [List.append_nil] at h
          simp only [List.nil_append]
          have e : okT 1 (.mk [] ps ks) = okK 2 [] ks := by simp [okT, hpo]
          rw [e]
          have e2 : decide (szT (.mk [] ps ks) ≤ 512) = true := decide_eq_true (by simpa only [szT] using hsz)
          have e3 : decide (0 < (flT (.mk [] ps ks) (-1) 0).length) = true := decide_eq_true (by simp [flT])
          simp only [flT, List.length_cons] at e3
          rw [e2, e3, decide_true, Bool.true_and, Bool.true_and, Bool.and_true]
          cases hk : okK 2 [] ks with
          | false => rw [show (chkGo 1 [1] [0] [] (flK ks 0 (0 + 1))).2 = none from h.2 hk]; rfl
          | true =>
            obtain ⟨dp2, pt2, sn2, h1, _⟩ := h.1 hk
            rw [show chkGo 1 [1] [0] [] (flK ks 0 (0 + 1)) = chkGo (1 + szK ks) ([1] ++ dp2) pt2 ([] ++ sn2) [] from h1, chkGo]
            rfl
        · rw [if_pos (.inr hn)]; simp [hn]
  · have h1 : treeOk (flT τ (-1) 0) = false := by
      cases h : treeOk (flT τ (-1) 0) with
      | false => rfl
      | true => have := treeOk_len h; rw [flT_length] at this; omega
    rw [h1]
    unfold okTree
    simp [hsz]

/-! Every list of nodes that is a tree lies so. -/
mutual
def spT : T → Nat → List Nat
  | .mk _ _ ks, b => b :: spK ks (b + 1)
def spK : List T → Nat → List Nat
  | [], _ => []
  | t :: ts, b => if ts.isEmpty then spT t b else spK ts (b + szT t)
end
mutual
def addT (nm : List UInt8) (ps : List Pr) : Nat → T → T
  | e, .mk n p ks => .mk n p (addK nm ps e ks)
def addK (nm : List UInt8) (ps : List Pr) : Nat → List T → List T
  | _, [] => [.mk nm ps []]
  | e, t :: ts => if ts.isEmpty then (match e with | 0 => [t, .mk nm ps []] | e + 1 => [addT nm ps e t]) else t :: addK nm ps e ts
end
theorem sp_ne (t : T) (b : Nat) : spT t b ≠ [] := by cases t; simp [spT]
mutual
theorem addT_fl (nm : List UInt8) (ps : List Pr) : ∀ (t : T) (e : Nat) (up : Int) (b : Nat), e < (spT t b).length →
    flT (addT nm ps e t) up b = flT t up b ++ [⟨(((spT t b).getD e 0 : Nat) : Int), nm, ps⟩] ∧ spT (addT nm ps e t) b = (spT t b).take (e + 1) ++ [b + szT t] ∧ szT (addT nm ps e t) = szT t + 1
  | .mk n p ks, e, up, b, he => by
    simp only [spT, List.length_cons] at he
    have h := addK_fl nm ps ks e b (b + 1) (by omega)
    simp only [addT, flT, spT, szT]
    refine ⟨?_, ?_, by omega⟩
    · rw [h.1, List.cons_append]
    · rw [h.2.1, List.take_succ_cons, List.cons_append]
      congr 3; omega
theorem addK_fl (nm : List UInt8) (ps : List Pr) : ∀ (ks : List T) (e u b : Nat), e ≤ (spK ks b).length →
    flK (addK nm ps e ks) u b = flK ks u b ++ [⟨(((u :: spK ks b).getD e 0 : Nat) : Int), nm, ps⟩] ∧ spK (addK nm ps e ks) b = (spK ks b).take e ++ [b + szK ks] ∧ szK (addK nm ps e ks) = szK ks + 1
  | [], e, u, b, he => by
    simp only [spK, List.length_nil] at he
    obtain rfl : e = 0 := by omega
    simp [addK, flK, flT, spK, spT, szK, szT]
  | [t], e, u, b, he => by
    simp only [spK, List.isEmpty_nil, if_true] at he
    cases e with
    | zero => simp [addK, flK, flT, spK, spT, szK, szT]
    | succ e =>
      have h := addT_fl nm ps t e (u : Int) b (by omega)
      simp only [addK, flK, spK, szK, List.isEmpty_nil, if_true, h.1, h.2.1, h.2.2]
      simp
  | t :: s :: ts, e, u, b, he => by
    simp only [spK, List.isEmpty_cons, Bool.false_eq_true, if_false] at he
    have h := addK_fl nm ps (s :: ts) e u (b + szT t) (by simpa [spK] using he)
    have hne : (addK nm ps e (s :: ts)).isEmpty = false := by
      cases hh : addK nm ps e (s :: ts) with
      | nil => have := h.2.2; rw [hh] at this; simp [szK] at this
      | cons _ _ => rfl
    have hs : ∀ b, spK (t :: s :: ts) b = spK (s :: ts) (b + szT t) := fun b => by rw [spK]; simp
    have ha : addK nm ps e (t :: s :: ts) = t :: addK nm ps e (s :: ts) := by cases e <;> simp [addK]
    have hs2 : spK (t :: addK nm ps e (s :: ts)) b = spK (addK nm ps e (s :: ts)) (b + szT t) := by rw [spK, hne]; simp
    have hf : flK (t :: s :: ts) u b = flT t (u : Int) b ++ flK (s :: ts) u (b + szT t) := by rw [flK]
    have hz : ∀ l, szK (t :: l) = szT t + szK l := fun l => by rw [szK]
    rw [ha, hs2, hs, hf, hz, hz, flK, h.1, h.2.1, h.2.2, List.append_assoc]
    exact ⟨rfl, by rw [Nat.add_assoc], by omega⟩
end
theorem chk_parse : ∀ (r : List Nd) (τ : T) (dp : List Int) (sn : List Kid), dp.length = szT τ → (∀ v ∈ dp, 1 ≤ v) →
    (chkGo (szT τ) dp ((spT τ 0).map fun (n : Nat) => (n : Int)) sn r).2.isSome = true → ∃ τ', flT τ (-1) 0 ++ r = flT τ' (-1) 0
  | [], τ, _, _, _, _, _ => ⟨τ, by simp⟩
  | x :: r, τ, dp, sn, hdl, hdv, h => by
    rw [chkGo] at h
    have hp := szT_pos τ
    split at h
    · cases h
    · rw [if_neg (by omega)] at h
      split at h
      · cases h
      · rename_i h2
        simp only [not_or, Bool.not_eq_false, Int.not_lt, Int.not_le] at h2
        split at h
        · cases h
        · rename_i h3
          simp only [not_or, Int.not_lt, Decidable.not_not] at h3
          have hd1 : 1 ≤ dp.getD x.parent.toNat 0 := by
            have hl : x.parent.toNat < dp.length := by omega
            rw [List.getD_eq_getElem?_getD, List.getElem?_eq_getElem hl]
            exact hdv _ (List.getElem_mem hl)
          obtain ⟨d, hd⟩ := Int.eq_ofNat_of_zero_le (show 0 ≤ dp.getD x.parent.toNat 0 by omega)
          rw [hd] at h h3 hd1
          rw [List.length_map] at h3
          have htd : ((d : Int) - 1).toNat = d - 1 := by omega
          rw [htd] at h3
          have hel : d - 1 < (spT τ 0).length := by omega
          have hpe : (((spT τ 0).getD (d - 1) 0 : Nat) : Int) = x.parent := by
            have := h3.2.1
            rw [List.getD_eq_getElem?_getD, List.getElem?_map, List.getElem?_eq_getElem hel] at this
            rw [List.getD_eq_getElem?_getD, List.getElem?_eq_getElem hel]
            exact this
          obtain ⟨a1, a2, a3⟩ := addT_fl x.name x.props τ (d - 1) (-1) 0 hel
          rw [hpe] at a1
          rw [Int.toNat_natCast] at h
          have e1 : d - 1 + 1 = d := by omega
          have e2 : List.take d (List.map (fun (n : Nat) => (n : Int)) (spT τ 0)) ++ [((szT τ : Nat) : Int)] = (spT (addT x.name x.props (d - 1) τ) 0).map fun (n : Nat) => (n : Int) := by
            rw [a2, e1, List.map_append, List.map_take, Nat.zero_add]; rfl
          rw [e2, ← a3] at h
          obtain ⟨τ', hτ⟩ := chk_parse r (addT x.name x.props (d - 1) τ) _ _ (by simp [hdl, a3]) (fun v hv => by
            rcases List.mem_append.1 hv with hv | hv
            · exact hdv v hv
            · simp at hv; omega) h
          refine ⟨τ', ?_⟩
          rw [← hτ, a1, List.append_assoc]
          rfl
theorem treeOk_parse {l : List Nd} (h : treeOk l = true) : ∃ τ, l = flT τ (-1) 0 ∧ okTree τ = true := by
  have key : ∃ τ, l = flT τ (-1) 0 := by
    have h0 := h
    unfold treeOk at h
    simp only [Bool.and_eq_true, decide_eq_true_eq] at h
    obtain ⟨h1, h2⟩ := h
    cases l with
    | nil => simp at h2
    | cons x r =>
      have hx := (treeOk_nd h0 (j := 0) (x := x) rfl).root rfl
      rw [chkGo] at h1
      split at h1
      · cases h1
      · rw [if_pos rfl, if_neg (by simp [hx.1, hx.2])] at h1
        obtain ⟨τ, hτ⟩ := chk_parse r (.mk x.name x.props []) [1] [] (by simp [szT, szK]) (by simp) (by simpa [spT, spK, szT, szK] using h1)
        refine ⟨τ, ?_⟩
        rw [← hτ]
        obtain ⟨xp, xn, xps⟩ := x
        simp only at hx
        obtain ⟨rfl, rfl⟩ := hx
        simp [flT, flK]
  obtain ⟨τ, rfl⟩ := key
  exact ⟨τ, rfl, by rw [← treeOk_flT]; exact h⟩
end Go.Proofs.YtjpebmgllfiloaaDoor

namespace Go.Proofs.YtjpebmgllfiloaaDoor
open Go Wk

def kidAt (nm : List UInt8) : List T → Nat → Option (T × Nat)
  | [], _ => none
  | t :: ts, b => if t.name = nm then some (t, b) else kidAt nm ts (b + szT t)
def atP : List (List UInt8) → T → Nat → Option (T × Nat)
  | [], τ, b => some (τ, b)
  | nm :: r, τ, b => match kidAt nm τ.kids (b + 1) with | some p => atP r p.1 p.2 | none => none
def updK (nm : List UInt8) (g : T → T) : List T → List T
  | [] => []
  | k :: ks => if k.name = nm then g k :: ks else k :: updK nm g ks
def updP (g : T → T) : List (List UInt8) → T → T
  | [], τ => g τ
  | nm :: r, .mk n p ks => .mk n p (updK nm (updP g r) ks)
theorem kidAt_split {nm : List UInt8} : ∀ {ks : List T} {b : Nat} {p : T × Nat}, kidAt nm ks b = some p → ∃ k1 k2, ks = k1 ++ p.1 :: k2 ∧ (∀ x ∈ k1, x.name ≠ nm) ∧ p.1.name = nm ∧ p.2 = b + szK k1 ∧ ∀ g, updK nm g ks = k1 ++ g p.1 :: k2
  | [], b, p, h => by simp [kidAt] at h
  | t :: ts, b, p, h => by
    rw [kidAt] at h
    split at h
    · rename_i hn
      cases h
      exact ⟨[], ts, rfl, by simp, hn, by simp [szK], fun g => by rw [updK, if_pos hn]; rfl⟩
    · rename_i hn
      obtain ⟨k1, k2, rfl, h1, h2, h3, h4⟩ := kidAt_split h
      exact ⟨t :: k1, k2, rfl, by simpa [hn] using h1, h2, by rw [h3]; simp only [szK]; omega, fun g => by rw [updK, if_neg hn, h4]; rfl⟩
theorem kidAt_none {nm : List UInt8} : ∀ {ks : List T} {b : Nat}, kidAt nm ks b = none → ∀ x ∈ ks, x.name ≠ nm
  | [], _, _, x, hx => by simp at hx
  | t :: ts, b, h, x, hx => by
    rw [kidAt] at h
    split at h
    · cases h
    · rename_i hn
      rcases List.mem_cons.1 hx with rfl | hx
      · exact hn
      · exact kidAt_none h x hx
theorem kidIn_skip {u : Int} {nm : List UInt8} : ∀ {l1 : List Nd} {l2 : List Nd} {i : Nat}, (∀ x ∈ l1, x.parent ≠ u) → kidIn u nm i (l1 ++ l2) = kidIn u nm (i + l1.length) l2
  | [], l2, i, _ => rfl
  | x :: r, l2, i, h => by
    rw [List.cons_append, kidIn, if_neg (fun e => h x (by simp) e.1), kidIn_skip (fun y hy => h y (by simp [hy]))]
    congr 1; simp only [List.length_cons]; omega
theorem kidIn_none {u : Int} {nm : List UInt8} {l : List Nd} {i : Nat} (h : ∀ x ∈ l, x.parent ≠ u) : kidIn u nm i l = none := by
  have := kidIn_skip (l2 := []) (nm := nm) (i := i) h
  rw [List.append_nil] at this
  rw [this]; rfl
theorem kidIn_fl {u : Nat} {nm : List UInt8} {rest : List Nd} (hr : ∀ x ∈ rest, x.parent ≠ (u : Int)) : ∀ (ks : List T) (b : Nat), u < b → kidIn u nm b (flK ks u b ++ rest) = (kidAt nm ks b).map (·.2)
  | [], b, _ => by simp only [flK, List.nil_append, kidAt, Option.map_none]; exact kidIn_none hr
  | t :: ts, b, hu => by
    obtain ⟨r, hh⟩ := flT_head t (u : Int) b
    have hp := flT_par t u b r hh
    simp only [flK, kidAt]
    rw [hh, List.append_assoc, List.cons_append, kidIn]
    by_cases hn : t.name = nm
    · rw [if_pos ⟨rfl, hn⟩, if_pos hn]; rfl
    · rw [if_neg (fun e => hn e.2), if_neg hn, kidIn_skip (fun x hx => by have := hp x hx; omega)]
      have hl := flT_length t (u : Int) b
      rw [hh, List.length_cons] at hl
      rw [show b + 1 + r.length = b + szT t by omega]
      exact kidIn_fl hr ts (b + szT t) (by omega)
theorem drop_sub {l r1 r2 : List Nd} {a n : Nat} (h : l.drop a = r1 ++ r2) (hn : r1.length = n) : l.drop (a + n) = r2 := by
  rw [← List.drop_drop, h, ← hn, List.drop_left]
/-- A part of a list of nodes that lies so: its kids. -/
theorem sub_kid {l rest : List Nd} {nm : List UInt8} {ps : List Pr} {k1 k2 : List T} {σ : T} {up : Int} {a : Nat} (h : l.drop a = flT (.mk nm ps (k1 ++ σ :: k2)) up a ++ rest) (hoff : Off a (szT (.mk nm ps (k1 ++ σ :: k2))) rest) :
    ∃ rest', l.drop (a + 1 + szK k1) = flT σ (a : Int) (a + 1 + szK k1) ++ rest' ∧ Off (a + 1 + szK k1) (szT σ) rest' := by
  have app : ∀ (x y : List T) (u b : Nat), flK (x ++ y) u b = flK x u b ++ flK y u (b + szK x) := fun x y u => by
    induction x with
    | nil => intro b; simp [flK, szK]
    | cons t ts ih => intro b; simp only [List.cons_append, flK, szK, ih, List.append_assoc, Nat.add_assoc]
  simp only [flT, szT, szK_append, szK] at h hoff
  rw [app] at h
  simp only [flK] at h
  refine ⟨flK k2 a (a + 1 + szK k1 + szT σ) ++ rest, ?_, fun x hx => ?_⟩
  · have h1 : l.drop (a + 1) = flK k1 a (a + 1) ++ (flT σ (a : Int) (a + 1 + szK k1) ++ (flK k2 a (a + 1 + szK k1 + szT σ) ++ rest)) := by
      have := drop_sub (r1 := [⟨up, nm, ps⟩]) (n := 1) (by simpa using h) rfl
      simpa using this
    exact drop_sub h1 (flK_length _ _ _)
  · rcases List.mem_append.1 hx with hx | hx
    · rcases flK_par k2 a (a + 1 + szK k1 + szT σ) (by omega) x hx with h | h
      · left; omega
      · right; omega
    · rcases hoff x hx with h | h
      · left; omega
      · right; omega
theorem findGo_T {l : List Nd} : ∀ (nms : List (List UInt8)) (τ : T) (up : Int) (a : Nat) (rest : List Nd), l.drop a = flT τ up a ++ rest → Off a (szT τ) rest → findGo l a nms = (atP nms τ a).map (·.2)
  | [], τ, up, a, rest, _, _ => rfl
  | nm :: r, .mk n p ks, up, a, rest, h, hoff => by
    rw [findGo, atP]
    have h1 : l.drop (a + 1) = flK ks a (a + 1) ++ rest := drop_sub (r1 := [⟨up, n, p⟩]) (n := 1) (by simpa [flT] using h) rfl
    rw [h1, kidIn_fl (fun x hx => by have := hoff x hx; have := szT_pos (.mk n p ks); omega) ks (a + 1) (by omega)]
    simp only [T.kids]
    cases hk : kidAt nm ks (a + 1) with
    | none => rfl
    | some q =>
      obtain ⟨σ, b⟩ := q
      obtain ⟨k1, k2, rfl, _, _, hb, _⟩ := kidAt_split hk
      simp only at hb
      subst hb
      obtain ⟨rest', h2, h3⟩ := sub_kid h hoff
      exact findGo_T r σ a (a + 1 + szK k1) rest' h2 h3
/-- The names that lead to a path's node. -/
def pathN (s : List UInt8) : Option (List (List UInt8)) :=
  if Lib.hasPrefix s [47] = true then (if Lib.trimPrefix s [47] = [] then some [] else some (splitR 47 (Lib.trimPrefix s [47]))) else none
theorem findM_T (τ : T) (s : List UInt8) : findM (flT τ (-1) 0) s = (pathN s).bind fun nms => (atP nms τ 0).map (·.2) := by
  unfold findM pathN
  split
  · split
    · rfl
    · exact findGo_T _ τ (-1) 0 [] (by simp) (fun x hx => by simp at hx)
  · rfl

/-! Knots of a tree with a part turned. -/
theorem updK_app {nm : List UInt8} {k1 k2 : List T} {σ : T} (h1 : ∀ x ∈ k1, x.name ≠ nm) (h2 : σ.name = nm) (g : T → T) : updK nm g (k1 ++ σ :: k2) = k1 ++ g σ :: k2 := by
  induction k1 with
  | nil => rw [List.nil_append, updK, if_pos h2]; rfl
  | cons t ts ih => rw [List.cons_append, updK, if_neg (h1 t (by simp)), ih fun x hx => h1 x (by simp [hx])]; rfl
theorem updP_const {nms : List (List UInt8)} {g : T → T} : ∀ {τ σ : T} {b a : Nat}, atP nms τ b = some (σ, a) → updP g nms τ = updP (fun _ => g σ) nms τ := by
  induction nms with
  | nil => intro τ σ b a h; simp only [atP, Option.some.injEq, Prod.mk.injEq] at h; obtain ⟨rfl, _⟩ := h; rfl
  | cons nm r ih =>
    intro τ σ b a h
    cases τ with
    | mk n p ks =>
      rw [atP] at h
      simp only [T.kids] at h
      cases hk : kidAt nm ks (b + 1) with
      | none => rw [hk] at h; cases h
      | some q =>
        rw [hk] at h
        obtain ⟨k1, k2, _, _, _, _, h4⟩ := kidAt_split hk
        simp only [updP, h4, ih h]
theorem szT_upd {nms : List (List UInt8)} {σ' : T} : ∀ {τ σ : T} {b a : Nat}, atP nms τ b = some (σ, a) → szT (updP (fun _ => σ') nms τ) + szT σ = szT τ + szT σ' ∧ (bigT σ' = true → bigT (updP (fun _ => σ') nms τ) = true) := by
  induction nms with
  | nil => intro τ σ b a h; simp only [atP, Option.some.injEq, Prod.mk.injEq] at h; obtain ⟨rfl, _⟩ := h; simp only [updP]; exact ⟨by omega, id⟩
  | cons nm r ih =>
    intro τ σ b a h
    cases τ with
    | mk n p ks =>
      rw [atP] at h
      simp only [T.kids] at h
      cases hk : kidAt nm ks (b + 1) with
      | none => rw [hk] at h; cases h
      | some q =>
        rw [hk] at h
        obtain ⟨k1, k2, rfl, _, _, _, h4⟩ := kidAt_split hk
        have := ih h
        simp only [updP, h4, szT, szK_append, szK, bigT, bigK_append, bigK, Bool.or_eq_true]
        exact ⟨by omega, fun hb => .inr (.inr (.inl (this.2 hb)))⟩
theorem is_upd {G : List Kn} {nms : List (List UInt8)} : ∀ {τ σ : T} {i a : Nat}, Is G τ i (List.range' i (szT τ)) → atP nms τ i = some (σ, a) →
    Is G σ a (List.range' a (szT σ)) ∧ i ≤ a ∧ a + szT σ ≤ i + szT τ ∧
    ∀ (G' : List Kn) (σ' : T) (A' : List Nat), Is G' σ' a A' → (∀ x, i ≤ x → x < i + szT τ → ¬ (a ≤ x ∧ x < a + szT σ) → G'[x]? = G[x]?) → ∃ ids', Is G' (updP (fun _ => σ') nms τ) i ids' := by
  induction nms with
  | nil =>
    intro τ σ i a h hat
    simp only [atP, Option.some.injEq, Prod.mk.injEq] at hat
    obtain ⟨rfl, rfl⟩ := hat
    exact ⟨h, Nat.le_refl _, Nat.le_refl _, fun G' σ' A' h' _ => ⟨A', h'⟩⟩
  | cons nm r ih =>
    intro τ σ i a h hat
    cases τ with
    | mk n p ks =>
      rw [atP] at hat
      simp only [T.kids] at hat
      cases hk : kidAt nm ks (i + 1) with
      | none => rw [hk] at hat; cases hat
      | some q =>
        rw [hk] at hat
        obtain ⟨κ, b⟩ := q
        obtain ⟨k1, k2, rfl, hno, hnm, hb, h4⟩ := kidAt_split hk
        simp only at hb hat hnm h4
        subst hb
        simp only [Is, szT, szK_append, szK] at h
        obtain ⟨kk, r0, hG, hids, hl⟩ := h
        obtain ⟨l1, l2, A, B, rfl, rfl, i1, i2, _⟩ := hl.split
        simp only [IsL] at i2
        obtain ⟨j, l3, C, D, rfl, rfl, iC, i3⟩ := i2
        have lA := i1.length
        have lC := iC.length
        have lD := i3.length
        rw [Nat.add_comm 1, List.range'_succ, List.cons.injEq] at hids
        have hids2 := hids.2.symm
        rw [← List.range'_append_1, ← List.range'_append_1] at hids2
        have hA := List.append_inj_left hids2 (by rw [lA]; simp)
        have hCD := List.append_inj_right hids2 (by rw [lA]; simp)
        have hC := List.append_inj_left hCD (by rw [lC]; simp)
        have hD := List.append_inj_right hCD (by rw [lC]; simp)
        subst hA
        subst hC
        subst hD
        have hj : j = i + 1 + szK k1 := by
          have hpos := szT_pos κ
          obtain ⟨m, hm⟩ : ∃ m, szT κ = m + 1 := ⟨szT κ - 1, by omega⟩
          rw [hm, List.range'_succ] at iC
          cases κ with
          | mk kn kp kks =>
            simp only [Is] at iC
            obtain ⟨_, _, _, e, _⟩ := iC
            exact (List.cons.inj e).1.symm
        subst hj
        obtain ⟨g1, g2, g3, g4⟩ := ih iC hat
        simp only [szT, szK_append, szK]
        refine ⟨g1, by omega, by omega, fun G' σ' A' h' hfr => ?_⟩
        obtain ⟨ids', h5⟩ := g4 G' σ' A' h' (fun x h1 h2 h3 => hfr x (by omega) (by omega) h3)
        simp only [updP, h4, Is]
        refine ⟨i :: (List.range' (i + 1) (szK k1) ++ (ids' ++ List.range' (i + 1 + szK k1 + szT κ) (szK k2))), l1 ++ (i + 1 + szK k1) :: l3, List.range' (i + 1) (szK k1) ++ (ids' ++ List.range' (i + 1 + szK k1 + szT κ) (szK k2)), (hfr i (Nat.le_refl _) (by omega) (by omega)).trans hG, rfl, ?_⟩
        refine (i1.frame fun x hx => ?_).append (b := ids' ++ List.range' (i + 1 + szK k1 + szT κ) (szK k2)) ?_
        · simp only [List.mem_range'_1] at hx
          exact hfr x (by omega) (by omega) (by omega)
        · simp only [IsL]
          refine ⟨_, l3, ids', _, rfl, rfl, h5, i3.frame fun x hx => ?_⟩
          simp only [List.mem_range'_1] at hx
          exact hfr x (by omega) (by omega) (by omega)

/-! Laying. -/
def dropPr (D : List (List UInt8)) (l : List Pr) : List Pr := l.filter fun y => !D.contains y.1
def dropT (D : List (List UInt8)) : T → T | .mk n p k => .mk n (dropPr D p) k
def dropG (D : List (List UInt8)) (G : List Kn) (i : Nat) : List Kn := match G[i]? with | some k => G.set i { k with props := dropPr D k.props } | none => G
/-- What overlay.Lay hands back. -/
def layM (t : List Nd) (p : Pc) : List Nd × Int :=
  if treeOk t = true then
    (if pieceOk p = true then
      (match findM t p.target with
      | some i => (match layG p.nodes p.nodes.length i 0 (dropG p.drop (knotsM t) i) (t.length : Int) with
        | (true, G, _) => if treeOk (flatG G G.length 0 (-1) []) = true then (flatG G G.length 0 (-1) [], 0) else ([], 40)
        | (false, _, _) => ([], 40))
      | none => ([], 51))
    else ([], 50))
  else ([], 40)
mutual
theorem okT_big : ∀ (t : T) (d : Nat), okT d t = true → bigT t = false
  | .mk n p ks, d, h => by
    simp only [okT, Bool.and_eq_true] at h
    have := propsOk_len h.1
    simp only [bigT, okK_big ks _ _ h.2.2, Bool.or_false, decide_eq_false_iff_not]; omega
theorem okK_big : ∀ (ks : List T) (d : Nat) (seen : List (List UInt8)), okK d seen ks = true → bigK ks = false
  | [], _, _, _ => rfl
  | t :: ts, d, seen, h => by
    simp only [okK, Bool.and_eq_true] at h
    simp only [bigK, okT_big t d h.2.2.1, okK_big ts d _ h.2.2.2, Bool.or_self]
end
/-- The turned tree. -/
def layO (D : List (List UInt8)) (nms : List (List UInt8)) (π τ : T) : T := updP (fun σ => layT π (dropT D σ)) nms τ
theorem szT_drop (D : List (List UInt8)) (t : T) : szT (dropT D t) = szT t := by cases t; rfl
theorem lay_run {τ π σ : T} {D nms : List (List UInt8)} {i : Nat} (hat : atP nms τ 0 = some (σ, i)) (r : LayR)
    (hr : layG (flT π (-1) 0) (flT π (-1) 0).length i 0 (dropG D (knotsM (flT τ (-1) 0)) i) ((flT τ (-1) 0).length : Int) = r) :
    (r.1 = true → flatG r.2.1 r.2.1.length 0 (-1) [] = flT (layO D nms π τ) (-1) 0 ∧ r.2.1.length = szT (layO D nms π τ) ∧ r.2.2 = (r.2.1.length : Int)) ∧ (r.1 = false → okTree (layO D nms π τ) = false) := by
  have h0 := knotsM_is τ
  rw [List.range_eq_range'] at h0
  obtain ⟨g1, g2, g3, g4⟩ := is_upd h0 hat
  have hlen : (knotsM (flT τ (-1) 0)).length = szT τ := by rw [knotsM_length, flT_length]
  generalize knotsM (flT τ (-1) 0) = G at h0 g1 g4 hlen hr
  obtain ⟨kk, hk⟩ := g1.get
  have hdl : (dropG D G i).length = G.length := by unfold dropG; rw [hk]; simp
  have hdk : ∀ x, x ≠ i → (dropG D G i)[x]? = G[x]? := fun x hx => by unfold dropG; rw [hk]; dsimp only; rw [List.getElem?_set, if_neg (fun e => hx e.symm)]
  have hil : i < G.length := by have := szT_pos σ; omega
  have hdi : Is (dropG D G i) (dropT D σ) i (List.range' i (szT σ)) := by
    cases σ with
    | mk n p ks =>
      simp only [Is, dropT, szT] at g1 ⊢
      obtain ⟨kk', r', e1, e2, e3⟩ := g1
      refine ⟨kk', r', ?_, e2, e3.frame fun x hx => hdk x fun e => ?_⟩
      · unfold dropG
        rw [e1]
        dsimp only
        rw [List.getElem?_set, if_pos rfl, if_pos hil]
      · rw [Nat.add_comm 1, List.range'_succ, List.cons.injEq] at e2
        have := e2.2.symm ▸ hx
        rw [List.mem_range'_1] at this
        omega
  have hlay := layG_is (pn := flT π (-1) 0) π 0 (-1) [] (flT π (-1) 0).length i (dropG D G i) (dropT D σ) (List.range' i (szT σ)) (by simp) (fun x hx => by simp at hx) (by rw [flT_length]; exact Nat.le_refl _) hdi List.nodup_range' (fun x hx => by rw [List.mem_range'_1] at hx; omega) r (by
    rw [hdl, hlen]
    rw [flT_length τ] at hr
    exact hr)
  have hsz := szT_upd (σ' := layT π (dropT D σ)) hat
  unfold layO
  rw [updP_const hat]
  rw [szT_drop] at hlay
  refine ⟨fun e => ?_, fun e => ?_⟩
  · obtain ⟨A', h1, h2, h3, h4⟩ := hlay.1 e
    obtain ⟨ids', h5⟩ := g4 r.2.1 _ A' h1 (fun x hx1 hx2 hx3 => by
      rw [h2.old x (by omega) (by rw [List.mem_range'_1]; exact hx3), hdk x (by rintro rfl; have := szT_pos σ; omega)])
    have hle : r.2.1.length = szT (updP (fun _ => layT π (dropT D σ)) nms τ) := by omega
    refine ⟨?_, hle, h3⟩
    have := flatG_is _ 0 ids' r.2.1.length (-1) [] h5 (by omega)
    rw [this]; rfl
  · cases hok : okTree (updP (fun _ => layT π (dropT D σ)) nms τ) with
    | false => rfl
    | true =>
      unfold okTree at hok
      simp only [Bool.and_eq_true, decide_eq_true_eq] at hok
      rcases hlay.2 e with h | h
      · have := hsz.2 h
        rw [okT_big _ _ hok.2.2] at this
        cases this
      · omega
/-- What laying comes to, as trees. -/
theorem layM_T {τ π : T} {p : Pc} (hp : pieceOk p = true) (hπ : p.nodes = flT π (-1) 0) (hτ : okTree τ = true) :
    layM (flT τ (-1) 0) p = match (pathN p.target).bind fun nms => (atP nms τ 0).map fun q => (nms, q) with
      | none => ([], 51)
      | some (nms, _) => if okTree (layO p.drop nms π τ) = true then (flT (layO p.drop nms π τ) (-1) 0, 0) else ([], 40) := by
  unfold layM
  rw [if_pos (by rw [treeOk_flT]; exact hτ), if_pos hp, findM_T, hπ]
  cases hn : pathN p.target with
  | none => rfl
  | some nms =>
    simp only [Option.bind_some]
    cases ha : atP nms τ 0 with
    | none => rfl
    | some q =>
      obtain ⟨σ, i⟩ := q
      simp only [Option.map_some]
      have h := lay_run (π := π) (D := p.drop) ha _ rfl
      generalize layG (flT π (-1) 0) (flT π (-1) 0).length i 0 (dropG p.drop (knotsM (flT τ (-1) 0)) i) ((flT τ (-1) 0).length : Int) = r at h ⊢
      obtain ⟨ok, G, c⟩ := r
      cases ok with
      | false =>
        simp only
        rw [if_neg (by rw [h.2 rfl]; simp)]
      | true =>
        simp only
        rw [(h.1 rfl).1, treeOk_flT]
end Go.Proofs.YtjpebmgllfiloaaDoor

namespace Go.Proofs.YtjpebmgllfiloaaDoor
open Go Wk
open Go.RowKit (Below)
attribute [local irreducible] Go.Calls

theorem atP_lt {nms : List (List UInt8)} : ∀ {τ σ : T} {b a : Nat}, atP nms τ b = some (σ, a) → b ≤ a ∧ a + szT σ ≤ b + szT τ := by
  induction nms with
  | nil => intro τ σ b a h; simp only [atP, Option.some.injEq, Prod.mk.injEq] at h; obtain ⟨rfl, rfl⟩ := h; exact ⟨Nat.le_refl _, Nat.le_refl _⟩
  | cons nm r ih =>
    intro τ σ b a h
    cases τ with
    | mk n p ks =>
      rw [atP] at h
      simp only [T.kids] at h
      cases hk : kidAt nm ks (b + 1) with
      | none => rw [hk] at h; cases h
      | some q =>
        rw [hk] at h
        obtain ⟨k1, k2, rfl, _, _, hb, _⟩ := kidAt_split hk
        have := ih h
        simp only [szT, szK_append, szK]
        omega
theorem findM_lt {t : List Nd} {s : List UInt8} {i : Nat} (ht : treeOk t = true) (h : findM t s = some i) : i < t.length := by
  obtain ⟨τ, rfl, _⟩ := treeOk_parse ht
  rw [findM_T] at h
  cases hn : pathN s with
  | none => rw [hn] at h; cases h
  | some nms =>
    rw [hn] at h
    simp only [Option.bind_some] at h
    cases ha : atP nms τ 0 with
    | none => rw [ha] at h; cases h
    | some q =>
      rw [ha] at h
      obtain ⟨σ, a⟩ := q
      simp only [Option.map_some, Option.some.injEq] at h
      subst h
      have h1 := atP_lt ha
      have h2 := szT_pos σ
      rw [flT_length]; omega
theorem pieceOk_nodes {p : Pc} (h : pieceOk p = true) : treeOk p.nodes = true := by
  unfold pieceOk at h
  simp only [Bool.and_eq_true] at h
  exact h.1
mutual
theorem ndsT_props {H : List Kn} : ∀ (τ : T) (i : Nat) (ids : List Nat), Is H τ i ids → bigT τ = false → ∀ j ∈ ids, ∀ y, H[j]? = some y → y.props.length ≤ 32
  | .mk n p ks, i, ids, h, hb, j, hj, y, hy => by
    simp only [Is] at h
    simp only [bigT, Bool.or_eq_false_iff, decide_eq_false_iff_not] at hb
    obtain ⟨kk, r, h1, rfl, h2⟩ := h
    rcases List.mem_cons.1 hj with rfl | hj
    · rw [h1] at hy; cases hy; dsimp only; omega
    · exact ndsK_props ks kk r h2 hb.2 j hj y hy
theorem ndsK_props {H : List Kn} : ∀ (ks : List T) (l ids : List Nat), IsL H ks l ids → bigK ks = false → ∀ j ∈ ids, ∀ y, H[j]? = some y → y.props.length ≤ 32
  | [], l, ids, h, _, j, hj, y, hy => by simp only [IsL] at h; rw [h.2] at hj; simp at hj
  | t :: ts, l, ids, h, hb, j, hj, y, hy => by
    simp only [IsL] at h
    simp only [bigK, Bool.or_eq_false_iff] at hb
    obtain ⟨j', r, a, b, rfl, rfl, h1, h2⟩ := h
    rcases List.mem_append.1 hj with hj | hj
    · exact ndsT_props t j' a h1 hb.1 j hj y hy
    · exact ndsK_props ts r b h2 hb.2 j hj y hy
end
theorem knots_props (τ : T) (h : okTree τ = true) (j : Nat) (y : Kn) (hy : (knotsM (flT τ (-1) 0))[j]? = some y) : y.props.length ≤ 32 := by
  unfold okTree at h
  simp only [Bool.and_eq_true] at h
  have hl := (List.getElem?_eq_some_iff.1 hy).1
  rw [knotsM_length, flT_length] at hl
  exact ndsT_props τ 0 _ (knotsM_is τ) (okT_big τ 1 h.2.2) j (List.mem_range.2 hl) y hy
/-- What a laid graph comes to. -/
theorem lay_flat {t : List Nd} {p : Pc} {i : Nat} (ht : treeOk t = true) (hp : pieceOk p = true) (hi : findM t p.target = some i) {r : LayR} (hr : layG p.nodes p.nodes.length i 0 (dropG p.drop (knotsM t) i) (t.length : Int) = r) (hr1 : r.1 = true) :
    (flatG r.2.1 r.2.1.length 0 (-1) []).length = r.2.1.length := by
  obtain ⟨τ, rfl, _⟩ := treeOk_parse ht
  obtain ⟨π, hπ, _⟩ := treeOk_parse (pieceOk_nodes hp)
  rw [hπ] at hr
  rw [findM_T] at hi
  cases hn : pathN p.target with
  | none => rw [hn] at hi; cases hi
  | some nms =>
    rw [hn] at hi
    simp only [Option.bind_some] at hi
    cases ha : atP nms τ 0 with
    | none => rw [ha] at hi; cases hi
    | some q =>
      rw [ha] at hi
      obtain ⟨σ, a⟩ := q
      cases hi
      obtain ⟨h1, h2, _⟩ := (lay_run ha r hr).1 hr1
      rw [h1, flT_length, h2]

set_option maxHeartbeats 2000000 in
set_option maxRecDepth 4000 in
theorem Lay_spec {Pb : Nat → Prop} {w : World} {tv nv dv : Value} {t : List Nd} {p : Pc} (ht : RdS rNd 3 Pb w tv t) (hn : RdS rNd 3 Pb w nv p.nodes) (hd : RdS (one vs) 1 Pb w dv p.drop) (hs : p.target.length ≤ 2000000) :
    Calls Tryd.prog 12 #[tv, .agg #[vs p.target, nv, dv]] w (Ret fun r w' => ∃ v, r = .tuple #[v, vi (layM t p).2] ∧ New w w' ∧ ∃ lab pvs, TrOwn w.heap.size lab w' v (layM t p).1 pvs) := by
  refine calls_of_Wc Tryd.func12 rfl Tryd.ntmps12 rfl ?_
  (repeat' (first | refine Wc.seq ?_ | refine Wc.region ?_))
  refine Wl.box rfl fun w1 b1 n1 s1 => ?_
  replace b1 : Bk w1 w.heap.size 25 [vs p.target, nv, dv] := b1
  (repeat' (first | refine Wl.moveE (by conv => { lhs; whnf }) ?_ | refine Wl.assignE (by conv => { lhs; whnf }) ?_ | refine Wl.nil ?_ | refine Qseq.normal ?_ | refine Wc.seq ?_ | refine Wc.region ?_))
  refine Wl.call (may_spec (ht.keep stableNd n1.keep)) rfl ?_
  rintro _ w2 ⟨rfl, n2⟩
  replace b1 := b1.chg n2 id
  replace n2 := New.trans n1 n2
  unfold layM
  cases hok : treeOk t with
  | false =>
    rw [if_neg (by simp)]
    (repeat' (first | refine Wl.assignE (by conv => { lhs; whnf }) ?_ | refine Wl.nil ?_ | refine Wl.notB rfl ?_ | refine Qseq.normal ?_ | refine Wc.seq ?_ | refine Wc.region ?_ | refine Wc.ret ?_ | refine Qseq.ret ?_ | refine Wc.condT rfl ?_))
    exact Qfn.ret2 rfl rfl rfl ⟨_, rfl, _, rfl, n2, _, [], TrOwn.nil⟩
  | true =>
    rw [if_pos rfl]
    (repeat' (first | refine Wl.nil ?_ | refine Wl.notB rfl ?_ | refine Qseq.normal ?_ | refine Wc.seq ?_ | refine Wc.region ?_ | refine Wc.skip ?_ | refine Wc.condF rfl ?_))
    refine Wl.loadB b1 rfl rfl ?_
    refine Wl.call (CheckP_spec (p := p) (hn.keep stableNd n2.keep) (hd.keep (stable_one _) n2.keep)) rfl ?_
    rintro _ w3 ⟨rfl, n3⟩
    replace b1 := b1.chg n3 id
    replace n3 := New.trans n2 n3
    unfold pieceE
    cases hpk : pieceOk p with
    | false =>
      rw [if_neg (by simp), if_neg (by simp)]
      (repeat' (first | refine Wl.moveE (by conv => { lhs; whnf }) ?_ | refine Wl.assignE (by conv => { lhs; whnf }) ?_ | refine Wl.nil ?_ | refine Qseq.normal ?_ | refine Wc.seq ?_ | refine Wc.region ?_ | refine Wc.ret ?_ | refine Qseq.ret ?_ | refine Wc.condT rfl ?_ | (refine Wl.neq rfl rfl (fun _ => ?_) (fun _ => ?_) <;> (first | (exfalso; omega) | skip))))
      exact Qfn.ret2 rfl rfl rfl ⟨_, rfl, _, rfl, n3, _, [], TrOwn.nil⟩
    | true =>
      rw [if_pos rfl, if_pos rfl]
      (repeat' (first | refine Wl.moveE (by conv => { lhs; whnf }) ?_ | refine Wl.assignE (by conv => { lhs; whnf }) ?_ | refine Wl.nil ?_ | refine Qseq.normal ?_ | refine Wc.seq ?_ | refine Wc.region ?_ | refine Wc.skip ?_ | refine Wc.condF rfl ?_ | refine Wl.fieldAddr rfl rfl ?_ | (refine Wl.neq rfl rfl (fun _ => ?_) (fun _ => ?_) <;> (first | (exfalso; omega) | skip))))
      refine Wl.load1 rfl (b1.cell (o := 0) rfl) ?_
      refine Wl.call (Find_spec (ht.keep stableNd n3.keep) hs) rfl ?_
      rintro _ w4 ⟨rfl, n4⟩
      replace b1 := b1.chg n4 id
      replace n4 := New.trans n3 n4
      unfold findR
      rw [if_pos hok]
      cases hfi : findM t p.target with
      | none =>
        dsimp only
        (repeat' (first | refine Wl.moveE (by conv => { lhs; whnf }) ?_ | refine Wl.assignE (by conv => { lhs; whnf }) ?_ | refine Wl.nil ?_ | refine Wl.extract rfl rfl ?_ | refine Qseq.normal ?_ | refine Wc.seq ?_ | refine Wc.region ?_ | refine Wc.ret ?_ | refine Qseq.ret ?_ | refine Wc.condT rfl ?_ | (refine Wl.neq rfl rfl (fun _ => ?_) (fun _ => ?_) <;> (first | (exfalso; omega) | skip))))
        exact Qfn.ret2 rfl rfl rfl ⟨_, rfl, _, rfl, n4, _, [], TrOwn.nil⟩
      | some i =>
        dsimp only
        have hil := findM_lt hok hfi
        have htl := treeOk_len hok
        have hpl := treeOk_pos (pieceOk_nodes hpk)
        have hpl2 := treeOk_len (pieceOk_nodes hpk)
        (repeat' (first | refine Wl.moveE (by conv => { lhs; whnf }) ?_ | refine Wl.assignE (by conv => { lhs; whnf }) ?_ | refine Wl.nil ?_ | refine Wl.extract rfl rfl ?_ | refine Qseq.normal ?_ | refine Wc.seq ?_ | refine Wc.region ?_ | refine Wc.skip ?_ | refine Wc.condF rfl ?_ | (refine Wl.neq rfl rfl (fun _ => ?_) (fun _ => ?_) <;> (first | (exfalso; omega) | skip))))
        refine Wl.call (knots_spec (ht.keep stableNd n4.keep) hok) rfl ?_
        rintro lv w5 ⟨bs, lab, kg5, ol5, n5⟩
        have b5 := b1.chg n5 id
        have n05 := New.trans n4 n5
        obtain ⟨la, lc, rfl, hlc1, hlc2⟩ := ol5.form
        have hgl := knotsM_length t
        have hbl : bs.length = t.length := by rw [kg5.len, hgl]
        simp only [List.length_map, maxLen] at hlc1 hlc2
        obtain ⟨k, hk⟩ := get_lt (knotsM t) (k := i) (by omega)
        obtain ⟨pv, kv, ka5⟩ := kg5.at' i k hk
        have kb5 : Bk w5 (bs.getD i 0) tKn [vs k.name, pv, kv] := ka5.bk
        have kp5 : OwnPr (fun x => lab x = some (i, 1)) w5 pv k.props := ka5.pr
        have hbget : ∀ j, j < t.length → (bs.map some)[j]? = some (some (bs.getD j 0)) := fun j hj => by
          rw [List.getElem?_map, List.getD_eq_getElem?_getD, List.getElem?_eq_getElem (by omega)]; rfl
        have hpb : lab w.heap.size = none := kg5.lab_none (.inr (by have := b1.lt; omega))
        (repeat' (first | refine Wl.assignE (by conv => { lhs; whnf }) ?_ | refine Wl.nil ?_ | refine Qseq.normal ?_ | refine Wc.seq ?_))
        refine Wc.regionT rfl (by kernel_rfl) (fun w' => Chg (fun b => lab b = some (i, 1)) w5 w') (Chg.drew _ _) ?_
        intro w6 n6
        (repeat' (refine Wt.quiet rfl (Wq.moveE (by conv => { lhs; whnf }) (Wq.nil ?_))))
        have hls : ∀ w', Chg (fun b => lab b = some (i, 1)) w5 w' → Keep (fun b => (w4.heap.size ≤ b ∧ lab b = none) ∨ No b) w5 w' := fun w' hw => hw.keep fun b _ hb e => by
          rcases hb with hb | hb
          · rw [hb.2] at e; cases e
          · exact hb
        refine Wt.quiet rfl (Wq.idxAddrV (ol5.rd (mono_one _)) hls rfl rfl (by omega) (hbget i (by omega)) (fun b o hc => Wq.nil ?_))
        refine Wt.quiet rfl (Wq.load1 rfl hc (Wq.nil ?_))
        (repeat' (refine Wt.quiet rfl (Wq.moveE (by conv => { lhs; whnf }) (Wq.nil ?_))))
        refine Wt.quiet rfl (Wq.idxAddrV (ol5.rd (mono_one _)) hls rfl rfl (by omega) (hbget i (by omega)) (fun b o hc => Wq.nil ?_))
        refine Wt.quiet rfl (Wq.load1 rfl hc (Wq.nil ?_))
        have hkb : ∀ w', Chg (fun b => lab b = some (i, 1)) w5 w' → Bk w' (bs.getD i 0) tKn [vs k.name, pv, kv] := fun w' hw => kb5.chg hw (fun e => by rw [ka5.lb] at e; cases e)
        (repeat' (first | refine Wt.quiet rfl (Wq.nilP rfl (Wq.nil ?_)) | refine Wt.quiet rfl (Wq.fieldAddr rfl rfl (Wq.nil ?_))))
        refine Wt.quiet rfl (Wq.load1 rfl (fun w' hw => (hkb w' hw).cell (o := 1) rfl) (Wq.nil ?_))
        refine Wt.chain rfl (Wl.makeFunc (first := []) (cap := [.tmp 3]) rfl rfl ?_)
        refine Wl.nil ⟨rfl, n6.any, ?_⟩
        have b6 := b5.chg n6 id
        have hd6 := hd.keep (stable_one _) (New.trans n05 n6).keep
        have kp6 := kp5.new plainPr n6
        refine Wt.chain rfl (Wl.call (DeleteFunc_spec (p := fun y => p.drop.contains y.1) (fg := 43) (fc := #[ptrV w.heap.size]) kp6 (fun y w' hy hw => Lay1_spec (b6.chg hw (fun e => by have := (kp6.lt e).1; rw [hpb] at this; cases this))
          (hd.keep (stable_one _) (Chg.keep (Chg.trans (New.trans n05 n6).any hw (M := fun b => w.heap.size ≤ b) (fun b hb e => by have := (kg5.low b _ (kp6.lt e).1).1; have := n4.size; omega)) (fun b hb _ e => by omega))))) rfl ?_)
        rintro pv7 w7 ⟨kp7, hob7, c7⟩
        have c57 : Chg (fun b => lab b = some (i, 1)) w5 w7 := Chg.trans n6.any c7 (fun b _ e => (kp6.lt e).1)
        refine Wl.nil ⟨rfl, c57, ?_⟩
        (repeat' (first | refine Wt.quiet rfl (Wq.nilP rfl (Wq.nil ?_)) | refine Wt.quiet rfl (Wq.fieldAddr rfl rfl (Wq.nil ?_))))
        have h7 : pv7.oneCell' = true := by obtain ⟨_, _, rfl, _⟩ := kp7.form; rfl
        refine Wt.last rfl (Wl.store1 (hkb w7 c57) rfl (show (1 : Nat) < 3 by omega) rfl h7 fun w8 b8 c8 => ?_)
        replace b8 : Bk w8 (bs.getD i 0) tKn [vs k.name, pv7, kv] := b8
        have kg6 := kg5.new n6
        have lo6 : w4.heap.size ≤ w6.heap.size := by have := n5.size; have := n6.size; omega
        have cT : Chg (fun b => ∃ q, lab b = some (i, q)) w6 w8 := Chg.trans (c7.mono fun b _ e => ⟨1, (kp6.lt e).1⟩) c8 fun b _ e => ⟨0, by rw [e]; exact ka5.lb⟩
        have kk6 : OwnKids (fun x => lab x = some (i, 2)) w6 kv (k.kids.map fun j => bs.getD j 0) := (ka5.chg n6 (fun _ e => e.elim)).kd
        have kk8 := (kk6.chg (plain_one _) c7 (fun b e1 e2 => by have h1 := (kk6.lt e1).1; rw [(kp6.lt e2).1] at h1; cases h1)).chg (plain_one _) c8 (fun b e1 e2 => by have h1 := (kk6.lt e1).1; rw [e2, ka5.lb] at h1; cases h1)
        have kp8 := kp7.chg plainPr c8 (fun b e1 e2 => by have h1 := (kp7.lt e1).1; rw [e2, ka5.lb] at h1; cases h1)
        have sp : Sep pv7 kv := fun b e1 e2 => by have h1 := (kk6.lt e2).1; rw [(kp6.lt (hob7 b e1)).1] at h1; cases h1
        obtain ⟨lab8, kg8, hl8⟩ := kg6.set (i := i) (k' := { k with props := dropPr p.drop k.props }) (pv' := pv7) (kv' := kv) lo6 hk cT b8 (kp8.mono (mono_flat pC) (fun b _ e => .inl e) (fun _ _ e => e)) (kk8.mono (mono_one _) (fun b _ e => .inl e) (fun _ _ e => e)) sp (fun j hj => kg6.kid i k hk j hj) (kg6.nd i k hk)
        have hdG : dropG p.drop (knotsM t) i = (knotsM t).set i { k with props := dropPr p.drop k.props } := by unfold dropG; rw [hk]
        rw [← hdG] at kg8
        have hdl : (dropG p.drop (knotsM t) i).length = t.length := by rw [hdG, List.length_set, hgl]
        have b68 : Bk w8 w.heap.size 25 [vs p.target, nv, dv] := b6.chg cT (fun ⟨q, e⟩ => by rw [hpb] at e; cases e)
        have n08 : New w w8 := Chg.trans (New.trans n05 n6) cT fun b hb ⟨q, e⟩ => by have := (kg5.low b _ e).1; have := n4.size; omega
        obtain ⟨ta, tc, rfl, _, _⟩ := ht.form
        (repeat' (first | refine Wl.nil ?_ | refine Qseq.normal ?_ | refine Wc.seq ?_ | refine Wc.region ?_ | refine Wl.fieldAddr rfl rfl ?_))
        refine Wl.load1 rfl (b68.cell (o := 1) rfl) ?_
        (repeat' (first | refine Wl.moveE (by conv => { lhs; whnf }) ?_ | refine Wl.lenS rfl ?_))
        refine Wl.buildF (ps := [(0, .tmp 47), (1, .tmp 49)]) (parts := [(0, nv), (1, vi t.length)]) rfl rfl (by
          obtain ⟨_, _, rfl, _⟩ := hn.form
          simp [Value.cells]) ?_
        refine Wl.alloc fun w9 b9 n9 s9 => ?_
        obtain ⟨na, nc, rfl, _, _⟩ := hn.form
        refine Wl.storeB (new := [.slice na p.nodes.length nc, vi t.length]) b9 rfl rfl rfl rfl (show (2 : Nat) ≤ 2 from Nat.le_refl 2) (by
          intro c hc
          simp at hc
          rcases hc with rfl | rfl <;> rfl) fun w10 b10 c10 s10 => ?_
        replace b10 : Bk w10 w8.heap.size 82 [.slice na p.nodes.length nc, vi t.length] := b10
        have n810 : New w8 w10 := Chg.trans n9 c10 fun b hb e => by omega
        have n010 := New.trans n08 n810
        have kg10 := kg8.new n810
        have lb10 : lab8 w8.heap.size = none := kg8.lab_none (.inl (Nat.le_refl _))
        have ol8 : OwnS (one optV) 78 1 (fun b => w4.heap.size ≤ b ∧ lab b = none) No w8 (.slice la (bs.map some).length lc) (bs.map some) := (ol5.new (plain_one _) n6).chg (plain_one _) cT (fun b e1 ⟨q, e⟩ => by rw [(ol5.lt e1).1.2] at e; cases e)
        have ol10 := ol8.new (plain_one _) n810
        have s8 : w4.heap.size ≤ w8.heap.size := by have := cT.size; omega
        have hL : LayW w4.heap.size w8.heap.size lab8 w10 bs (dropG p.drop (knotsM t) i) (.slice na p.nodes.length nc) p.nodes (t.length : Int) :=
          ⟨kg10, b10, ⟨s8, lb10⟩, (hn.mono (Pb' := fun b => b < w4.heap.size) monoNd (fun b hb _ => by have := n4.size; omega)).keep stableNd n010.keep, by rw [hdl], fun j y hy => by
            rw [hdG, List.getElem?_set] at hy
            have hkn : ∀ (j : Nat) (y : Kn), (knotsM t)[j]? = some y → y.props.length ≤ 32 := fun j y hy => by
              have htt := treeOk_parse hok
              obtain ⟨τ, rfl, hτ⟩ := htt
              exact knots_props τ hτ j y hy
            split at hy
            · split at hy
              · simp only [Option.some.injEq] at hy
                subst hy
                exact Nat.le_trans (List.length_filter_le _ _) (hkn i k hk)
              · cases hy
            · exact hkn j y hy, by have := n810.size; omega⟩
        (repeat' (first | refine Wl.moveE (by conv => { lhs; whnf }) ?_ | refine Wl.nil ?_ | refine Qseq.normal ?_ | refine Wc.seq ?_ | refine Wc.region ?_))
        refine Wl.idxAddrV (ol10.rd (mono_one _)) rfl rfl (by omega) (hbget i (by omega)) fun b o hc => ?_
        refine Wl.load1 rfl hc ?_
        have hlay := lay_flat hok hpk hfi rfl
        have hcall := lay_spec (pieceOk_nodes hpk) p.nodes.length i 0 _ _ w10 bs lab8 (by rw [hdl]; exact hil) hpl (by omega) (by omega) hL
        rw [show ((0 : Nat) : Int) = 0 from rfl] at hcall
        refine Wl.call hcall rfl ?_
        rintro _ w11 ⟨rfl, c11, hres⟩
        generalize layG p.nodes p.nodes.length i 0 (dropG p.drop (knotsM t) i) (t.length : Int) = R at hlay hres ⊢
        obtain ⟨ok, G2, c2⟩ := R
        have n011 : New w w11 := Chg.trans n010 c11 fun b hb e => by
          rcases e with e | e
          · have := n08.size; omega
          · exact e (kg8.lab_none (.inr (by have := n4.size; omega)))
        cases ok with
        | false =>
          dsimp only
          (repeat' (first | refine Wl.assignE (by conv => { lhs; whnf }) ?_ | refine Wl.nil ?_ | refine Wl.notB rfl ?_ | refine Qseq.normal ?_ | refine Wc.seq ?_ | refine Wc.region ?_ | refine Wc.ret ?_ | refine Qseq.ret ?_ | refine Wc.condT rfl ?_))
          exact Qfn.ret2 rfl rfl rfl ⟨_, rfl, _, rfl, n011, _, [], TrOwn.nil⟩
        | true =>
          dsimp only at hlay hres ⊢
          replace hlay := hlay rfl
          obtain ⟨lab11, bs', hw11, hc11, hl11⟩ := hres rfl
          have hgl11 := hw11.gl
          have ol11 := ol10.chg (plain_one _) c11 (fun b e1 e2 => by
            have h1 := ol8.lt e1
            rcases e2 with e2 | e2
            · omega
            · rw [hl8 b (by have := (ol5.lt e1).2; have := n6.size; omega), h1.1.2] at e2
              exact e2 rfl)
          (repeat' (first | refine Wl.moveE (by conv => { lhs; whnf }) ?_ | refine Wl.nil ?_ | refine Wl.notB rfl ?_ | refine Qseq.normal ?_ | refine Wc.seq ?_ | refine Wc.region ?_ | refine Wc.skip ?_ | refine Wc.condF rfl ?_))
          refine Wl.idxAddrV (ol11.rd (mono_one _)) rfl rfl (by omega) (hbget 0 (by omega)) fun b o hc => ?_
          refine Wl.load1 rfl hc ?_
          have hg0 : (bs ++ bs').getD 0 0 = bs.getD 0 0 := by
            rw [List.getD_eq_getElem?_getD, List.getElem?_append_left (by omega), ← List.getD_eq_getElem?_getD]
          have hflat := flat_spec hw11.kg (i := 0) (by have := hw11.kg.len; rw [List.length_append] at this; omega) (fun j y hy => by have := hw11.pl j y hy; omega) (by omega) (by rw [hlay]; omega)
          rw [hg0] at hflat
          refine Wl.call hflat rfl ?_
          rintro ov w12 ⟨lab12, pvs12, to12, n12⟩
          (repeat' (first | refine Wl.moveE (by conv => { lhs; whnf }) ?_ | refine Wl.assignE (by conv => { lhs; whnf }) ?_ | refine Wl.nil ?_ | refine Qseq.normal ?_ | refine Wc.seq ?_ | refine Wc.region ?_))
          refine Wl.call (may_spec to12.rd) rfl ?_
          rintro _ w13 ⟨rfl, n13⟩
          have n013 := New.trans (New.trans n011 n12) n13
          cases hout : treeOk (flatG G2 G2.length 0 (-1) []) with
          | false =>
            rw [if_neg (by simp)]
            (repeat' (first | refine Wl.assignE (by conv => { lhs; whnf }) ?_ | refine Wl.nil ?_ | refine Wl.notB rfl ?_ | refine Qseq.normal ?_ | refine Wc.seq ?_ | refine Wc.region ?_ | refine Wc.ret ?_ | refine Qseq.ret ?_ | refine Wc.condT rfl ?_))
            exact Qfn.ret2 rfl rfl rfl ⟨_, rfl, _, rfl, n013, _, [], TrOwn.nil⟩
          | true =>
            rw [if_pos rfl]
            (repeat' (first | refine Wl.moveE (by conv => { lhs; whnf }) ?_ | refine Wl.assignE (by conv => { lhs; whnf }) ?_ | refine Wl.nil ?_ | refine Wl.notB rfl ?_ | refine Qseq.normal ?_ | refine Wc.seq ?_ | refine Wc.region ?_ | refine Wc.skip ?_ | refine Wc.ret ?_ | refine Wc.condF rfl ?_))
            have to13 := to12.new n13
            exact Qfn.ret2 rfl rfl rfl ⟨_, rfl, _, rfl, n013, lab12, pvs12, to13.len, fun b c e => ⟨by have := (to13.low b c e).1; have := n011.size; omega, (to13.low b c e).2⟩, to13.arr, to13.pr⟩
end Go.Proofs.YtjpebmgllfiloaaDoor

namespace Go.Proofs.YtjpebmgllfiloaaDoor.Wk
open Go Go.RowKit

section
variable {P : Program} {n : Nat} {ds : List Deferred} {Q : Po} {F : Fr} {w w' : World} {M : Fr → World → Prop}
def Qm (M : Fr → World → Prop) (Q : Po) : Po
  | .normal, F, w => M F w
  | e, F, w => Q e F w
theorem Qm.normal (h : M F w) : Qm M Q .normal F w := h
theorem Qm.ret (h : Q .ret F w) : Qm M Q .ret F w := h
theorem Qm.exit {id : Nat} (h : Q (.exit id) F w) : Qm M Q (.exit id) F w := h
theorem Qm.panic {c : List PanicEntry} (h : Q (.panic c) F w) : Qm M Q (.panic c) F w := h
theorem Wc.cutR {a b : Code} (M : Fr → World → Prop) (h1 : Wc P n ds (Qm M Q) a F w) (h2 : ∀ F w, M F w → Wc P n ds Q b F w) : Wc P n ds Q (.seq a b) F w := by
  unfold Wc at *
  refine wp_seq (wp_mono h1 ?_)
  rintro e a' w' ⟨F', rfl, hM⟩
  cases e with
  | normal => exact h2 F' w' hM
  | _ => exact ⟨F', rfl, hM⟩
attribute [irreducible] Qm
end
section
variable {P : Program} {n : Nat} {ds : List Deferred} {Q : Po} {F : Fr} {w w' : World} {ops rest : List Oper} {d : Nat} {ty : TypeId} {pos : String} {aft : Array Edge} {C : World → Prop} {K : Fr → Prop}
/-- Behind a test that was not made. -/
theorem Wl.guardU {op : Op} {j : Nat} {b : Bool} (hy : yld ops n F j = none) (k : Wl P n ds Q ops rest (upd F d undef) w) : Wl P n ds Q ops (⟨some d, op, ty, pos, aft, some (j, b)⟩ :: rest) F w := by
  have hw : Region.wanted ⟨some d, op, ty, pos, aft, some (j, b)⟩ (yielded ops.toArray (act n ds F).tmps) = false := by
    simp only [Region.wanted, act, yielded_eq, hy]; rfl
  unfold Wl at k ⊢
  rw [wpList, if_neg (by rw [hw]; simp), act_put]
  exact k
theorem Wq.guardU {op : Op} {j : Nat} {b : Bool} (hy : yld ops n F j = none) (k : Wq P n ds C K ops rest (upd F d undef)) : Wq P n ds C K ops (⟨some d, op, ty, pos, aft, some (j, b)⟩ :: rest) F := by
  have hw : Region.wanted ⟨some d, op, ty, pos, aft, some (j, b)⟩ (yielded ops.toArray (act n ds F).tmps) = false := by
    simp only [Region.wanted, act, yielded_eq, hy]; rfl
  unfold Wq at k ⊢
  rw [wpQuiet, if_neg (by rw [hw]; simp), act_put]
  exact k
theorem Wt.guardU {op : Op} {l : List Oper} {j : Nat} {b : Bool} (hy : yld ops n F j = none) (hC : C w) (h : Wt P n ds C Q ops l (upd F d undef) w) :
    Wt P n ds C Q ops (⟨some d, op, ty, pos, aft, some (j, b)⟩ :: l) F w := by
  unfold Wt
  split
  · exact Wq.guardU hy (Wq.nil h)
  · split
    · rename_i he
      have : l = [] := by simpa using he
      subst this
      unfold Wt at h
      exact Wl.guardU hy (Wl.nil h)
    · exact Wl.guardU hy (Wl.nil ⟨rfl, hC, h⟩)
end
end Go.Proofs.YtjpebmgllfiloaaDoor.Wk

namespace Go.Proofs.YtjpebmgllfiloaaDoor.Wk
open Go Go.RowKit

section
variable {P : Program} {n : Nat} {ds : List Deferred} {Q : Po} {F : Fr} {w w' : World} {ops rest : List Oper} {d d1 d2 : Nat} {ty ty1 ty2 : TypeId} {pos pos1 pos2 : String} {aft aft1 aft2 : Array Edge}
/-- 'make([]T, c)', of whatever elements. -/
theorem Wl.makeA {x y : Operand} {t e : TypeId} {sz bytes : Nat} {agg : Bool} {z : Value} {kl kc : IntKind} {m : Nat}
    [ht : Und P t (.slice e)] [he : ElT P e sz bytes agg z] (hx : ev n F x = .int kl m) (hy : ev n F y = .int kc m) (hby : bytes * m ≤ 281474976710656) (h63 : m ≤ maxLen)
    (c : ∀ w' cs, OwnC (fun b => b = w.heap.size) w' e sz (.slice (some ⟨w.heap.size, 0, none⟩) m m) m cs → New w w' → w'.heap.size = w.heap.size + 1 → Wl P n ds Q ops rest (upd F d (.slice (some ⟨w.heap.size, 0, none⟩) m m)) w') :
    Wl P n ds Q ops (⟨some d, .makeSlice t x y, ty, pos, aft, none⟩ :: rest) F w := by
  obtain ⟨i, hi, hsz', hby', hz'⟩ := he.inf
  have hb' : (i.bytes : Int) * (m : Int) ≤ 281474976710656 := by
    have h : ((i.bytes * m : Nat) : Int) ≤ 281474976710656 := by rw [hby']; omega
    rwa [Int.natCast_mul] at h
  have h63' := h63
  simp only [maxLen] at h63'
  have hr := run_make (P := P) w t e i z ht.h hi hz' kl kc m m (by omega) (Int.le_refl _) hb' (by omega)
  simp only [Int.toNat_natCast] at hr
  refine Wl.val (v := .slice (some ⟨w.heap.size, 0, none⟩) m m) (w' := w.alloc (.cells (madeCells z.cells (m * i.size)) e)) ?_ (c _ (madeCells z.cells (m * i.size)).toList ⟨by simp [size_madeCells, hsz'], .inr ⟨w.heap.size, m, _, rfl, rfl, heap_alloc_new w _, Nat.le_refl _, h63, by rw [size_madeCells, hsz'], ?_⟩⟩ (Chg.alloc _ _ _) (by simp))
  · simp only [execOp, hx, hy, Sem.run_bind, hr, Result.andThen_ok, Sem.run_pure]
  · rw [List.take_of_length_le]; simp [size_madeCells, hsz']
/-- 'copy(dst, src)', all of the one over all of the other. -/
theorem Wl.copyAll {α : Type} {R : Rel α} {x y : Operand} {t e : TypeId} {sz bytes : Nat} {agg : Bool} {z u v : Value} {Pb Pe Pr : Nat → Prop} {g m cap : Nat} {cs0 : List Value} {xs : List α} (hR : GoodR R sz)
    [ht : Und P t (.slice e)] [he : ElT P e sz bytes agg z] (hown : OwnC Pb w e sz v m cs0) (hv : v = .slice (some ⟨g, 0, none⟩) m cap) (hr : RdS R sz Pr w u xs) (hm : xs.length = m) (hp : ∀ x cs, R Pr w x cs → R (fun b => Pe b ∧ g ≠ b) w x cs) (hsz : 0 < sz)
    (hx : ev n F x = v) (hy : ev n F y = u)
    (c : ∀ w', OwnS R e sz Pb Pe w' v xs → Chg (fun b => b = g) w w' → w'.heap.size = w.heap.size → Wl P n ds Q ops rest (upd F d (vi m)) w') :
    Wl P n ds Q ops (⟨some d, .call { callee := .builtin .copy, args := #[x, y], argTypes := #[t, t] }, ty, pos, aft, none⟩ :: rest) F w := by
  obtain ⟨i, hi, hsz', hby', hz'⟩ := he.inf
  subst hm
  -- the source's cells
  have hsrc : ∃ (p : Option Addr) (cp : Nat) (cs : List Value), u = .slice p xs.length cp ∧ cs.length = xs.length * sz ∧ (∀ (i : Nat) (x : α), xs[i]? = some x → R Pr w x ((cs.drop (i * sz)).take sz)) ∧ (Builtin.firstCells sz xs.length u).run P w = .ok cs.toArray w := by
    rcases hr with ⟨rfl, rfl⟩ | ⟨a, cp, rfl, rfl, hc⟩ | ⟨b, off, cp, cur, e', fr, rfl, hb, hh, h1, h2, h3, h4⟩
    · exact ⟨none, 0, [], rfl, by simp, by simp, rfl⟩
    · exact ⟨some a, cp, [], rfl, by simp, by simp, by simp [Builtin.firstCells, loadCells, loadCellsFrom]⟩
    · have hcl : ((cur.toList.drop off).take (xs.length * sz)).length = xs.length * sz := by simp; omega
      refine ⟨_, cp, (cur.toList.drop off).take (xs.length * sz), rfl, hcl, fun i x hx => ?_, ?_⟩
      · have hil : i < xs.length := (List.getElem?_eq_some_iff.1 hx).1
        have hle : (i + 1) * sz ≤ xs.length * sz := Nat.mul_le_mul_right _ hil
        rw [Nat.add_mul] at hle
        rw [List.drop_take, List.take_take, Nat.min_eq_left (by omega), List.drop_drop]
        exact h4 i x hx
      · have hl := run_loadCells_list (P := P) w ⟨b, off, none⟩ ((cur.toList.drop off).take (xs.length * sz)) (fun j v hv => by
          rw [addr_add]
          rw [List.getElem?_take] at hv
          split at hv
          · rw [List.getElem?_drop] at hv
            simp only [World.cell?, hh]
            simpa using hv
          · cases hv)
        rw [hcl] at hl
        simp only [Builtin.firstCells]
        exact hl
  obtain ⟨p, cp, cs, rfl, hcl, hel, hfc⟩ := hsrc
  obtain ⟨hl0, hoc⟩ := hown
  rcases hoc with ⟨e1, _⟩ | ⟨g', cap', cur, e1, hb, hg, h1, h2, h3, h4⟩
  · rw [hv] at e1; cases e1
  · rw [hv] at e1
    cases e1
    have hle : xs.length * sz ≤ cap * sz := Nat.mul_le_mul_right _ h1
    have hoc : ∀ c ∈ cs, c.oneCell' = true := by
      intro q hq
      obtain ⟨j, hj, rfl⟩ := List.getElem_of_mem hq
      rw [hcl] at hj
      have hjs : j / sz < xs.length := Nat.div_lt_of_lt_mul (by rw [Nat.mul_comm]; exact hj)
      have h5 := hel (j / sz) xs[j / sz] (List.getElem?_eq_getElem hjs)
      have hle2 : (j / sz + 1) * sz ≤ xs.length * sz := Nat.mul_le_mul_right _ hjs
      rw [Nat.add_mul] at hle2
      refine hR.oc _ _ _ _ h5 (by simp; omega) _ ?_
      have hm : j % sz < sz := Nat.mod_lt _ hsz
      have hdm := Nat.div_add_mod j sz
      rw [Nat.mul_comm] at hdm
      refine List.mem_iff_getElem?.2 ⟨j % sz, ?_⟩
      rw [List.getElem?_take, if_pos hm, List.getElem?_drop, hdm, List.getElem?_eq_getElem]
    have hst := run_storeCells_at P g 0 e cs 0 cur w hg (by omega) hoc
    have hrun : (Builtin.copy_ #[t, t] ty #[v, .slice p xs.length cp]).run P w = .ok (vi xs.length) (w.setRow g (cur.toList.take 0 ++ cs ++ cur.toList.drop (0 + cs.length)).toArray) := by
      have hst' : (storeCells (⟨g, 0, none⟩ : Addr) cs 0).run P w = .ok () (w.setRow g (cur.toList.take 0 ++ cs ++ cur.toList.drop (0 + cs.length)).toArray) := hst
      have hfc' : (Builtin.firstCells i.size xs.length (.slice p xs.length cp)).run P w = .ok cs.toArray w := by rw [hsz']; exact hfc
      subst hv
      simp [Builtin.copy_, run_underlying ht.h, Builtin.lenOf, sizeOf, typeInfo, hi, hfc', hst', goInt]
    refine Wl.val (w' := w.setRow g (cur.toList.take 0 ++ cs ++ cur.toList.drop (0 + cs.length)).toArray) ?_ (c _ ⟨cs, ⟨hcl, .inr ⟨g, cap, _, hv, hb, setRow_heap w g cur _ e _ hg, h1, h2, ?_, ?_⟩⟩, fun i x hx => ?_⟩ (Chg.setRow rfl) (by simp))
    · simp only [execOp, resolve, Sem.run_bind, Sem.run_pure, Result.andThen_ok, invoke, builtin, List.map_toArray, List.map_cons, List.map_nil, hx, hy, hrun]
    · simp; omega
    · rw [← hcl]; simp
    · refine hR.mo (fun b => Pe b ∧ g ≠ b) _ _ _ _ (fun b _ hb => ⟨hb.1, fun e => hb.2 (by rw [hv] at e; simpa [Value.ownBlock] using e)⟩) ?_
      exact hR.st _ _ _ _ _ (Chg.keep (M := fun b => b = g) (Chg.setRow rfl) fun b _ hb e => hb.2 e.symm) (hp x _ (hel i x hx))
end
end Go.Proofs.YtjpebmgllfiloaaDoor.Wk

namespace Go.Proofs.YtjpebmgllfiloaaDoor
open Go Wk
open Go.RowKit (Below)
attribute [local irreducible] Go.Calls

/-- Nodes that read so, their lists of props by value. -/
theorem rNd_flat {Pb : Nat → Prop} {w : World} {v : Value} {t : List Nd} (h : RdS rNd 3 Pb w v t) : ∃ pvs : List Sl, pvs.length = t.length ∧ RdS (flat ndV) 3 Pb w v (t.zip pvs) ∧ ∀ (i : Nat) (x : Nd) (pv : Sl), t[i]? = some x → pvs[i]? = some pv → RdS rPr 2 Pb w (slV pv) x.props := by
  have sl : ∀ (x : Nd) (cs : List Value), rNd Pb w x cs → ∃ pv : Sl, cs = ndV (x, pv) ∧ RdS rPr 2 Pb w (slV pv) x.props := fun x cs ⟨v, hc, hr⟩ => by
    obtain ⟨a, cap, rfl, _, _⟩ := hr.form
    exact ⟨(a, x.props.length, cap), hc, hr⟩
  rcases h with ⟨rfl, rfl⟩ | ⟨a, cap, rfl, rfl, hc⟩ | ⟨b, off, cap, cur, e, fr, rfl, hb, hh, h1, h2, h3, h4⟩
  · exact ⟨[], rfl, .inl ⟨rfl, rfl⟩, by simp⟩
  · exact ⟨[], rfl, .inr (.inl ⟨a, cap, rfl, rfl, hc⟩), by simp⟩
  · obtain ⟨pvs, hpl, hpv⟩ := list_of (n := t.length) (Q := fun i (pv : Sl) => ∀ x, t[i]? = some x → (cur.toList.drop (off + i * 3)).take 3 = ndV (x, pv) ∧ RdS rPr 2 Pb w (slV pv) x.props) fun i hi => by
      obtain ⟨x, hx⟩ := get_lt t hi
      obtain ⟨pv, g1, g2⟩ := sl x _ (h4 i x hx)
      exact ⟨pv, fun y hy => by rw [hx] at hy; cases hy; exact ⟨g1, g2⟩⟩
    have hzl : (t.zip pvs).length = t.length := by simp [hpl]
    refine ⟨pvs, hpl, .inr (.inr ⟨b, off, cap, cur, e, fr, by rw [hzl], hb, hh, by rw [hzl]; exact h1, h2, by rw [hzl]; exact h3, fun i q hq => ?_⟩), fun i x pv hx hp => (hpv i pv hp x hx).2⟩
    rw [List.getElem?_zip_eq_some] at hq
    exact (hpv i q.2 hq.2 q.1 hq.1).1
theorem zip_set {α β : Type} : ∀ (l : List α) (m : List β) (i : Nat) (x : α) (y : β), l[i]? = some x → (l.zip m).set i (x, y) = l.zip (m.set i y)
  | [], m, i, x, y, h => by simp at h
  | a :: l, [], i, x, y, h => by simp
  | a :: l, b :: m, 0, x, y, h => by simp at h; subst h; rfl
  | a :: l, b :: m, i + 1, x, y, h => by
    simp only [List.zip_cons_cons, List.set_cons_succ]
    rw [zip_set l m i x y (by simpa using h)]
set_option maxHeartbeats 1000000 in
set_option maxRecDepth 4000 in
theorem twin_spec {Pt : Nat → Prop} {w : World} {v : Value} {t : List Nd} (h : RdS rNd 3 Pt w v t) (hl : t.length ≤ 2000000) (hpl : ∀ x ∈ t, x.props.length ≤ 2000000) :
    Calls Tryd.prog 52 #[v] w (Ret fun r w' => ∃ lab pvs, TrOwn w.heap.size lab w' r t pvs ∧ New w w') := by
  obtain ⟨a, cap, rfl, hc1, hc2⟩ := h.form
  obtain ⟨pvs, hpvl, hfl, hpr⟩ := rNd_flat h
  have hzl : (t.zip pvs).length = t.length := by simp [hpvl]
  refine calls_of_Wc Tryd.func52 rfl Tryd.ntmps52 rfl ?_
  (repeat' (first | refine Wl.moveE (by conv => { lhs; whnf }) ?_ | refine Wl.assignE (by conv => { lhs; whnf }) ?_ | refine Wl.nil ?_ | refine Wl.lenS rfl ?_ | refine Qseq.normal ?_ | refine Wc.seq ?_ | refine Wc.region ?_))
  refine Wl.makeA (m := t.length) rfl rfl (by omega) (by simp only [maxLen]; omega) fun w1 cs0 o1 n1 s1 => ?_
  (repeat' (first | refine Wl.moveE (by conv => { lhs; whnf }) ?_ | refine Wl.assignE (by conv => { lhs; whnf }) ?_ | refine Wl.nil ?_ | refine Qseq.normal ?_ | refine Wc.seq ?_ | refine Wc.region ?_))
  refine Wl.copyAll (R := flat ndV) (Pe := No) (xs := t.zip pvs) goodNdV o1 rfl (hfl.keep (stable_flat ndV) n1.keep) hzl (fun x cs h => h) (by omega) rfl rfl fun w2 o2 c2 s2 => ?_
  have n2 : New w w2 := Chg.trans n1 c2 fun b hb e => by omega
  clear o1
  (repeat' (first | refine Wl.moveE (by conv => { lhs; whnf }) ?_ | refine Wl.nil ?_ | refine Wl.lenS rfl ?_ | refine Qseq.normal ?_ | refine Wc.seq ?_ | refine Wc.region ?_ | refine Wc.block ?_))
  refine Wc.loop (σ := Nat × Lb × List Sl) (fun s => [(3, .slice (some ⟨w.heap.size, 0, none⟩) t.length t.length), (12, vi t.length), (13, vi s.1)])
    (fun s w' => s.1 ≤ t.length ∧ s.2.2.length = t.length ∧ OwnS (flat ndV) tNd 3 (fun b => b = w.heap.size) No w' (.slice (some ⟨w.heap.size, 0, none⟩) t.length t.length) (t.zip s.2.2) ∧ (∀ j, s.1 ≤ j → s.2.2[j]? = pvs[j]?) ∧
      (∀ (j : Nat) (x : Nd) (pv : Sl), j < s.1 → t[j]? = some x → s.2.2[j]? = some pv → OwnPr (fun b => s.2.1 b = some (j + 1)) w' (slV pv) x.props) ∧ (∀ b c, s.2.1 b = some c → w.heap.size < b ∧ b < w'.heap.size ∧ c ≠ 0) ∧ New w w') (fun s => t.length - s.1)
    (0, fun _ => none, pvs) ⟨rfl, rfl, rfl, trivial⟩ ⟨Nat.zero_le _, hpvl, o2, fun _ _ => rfl, fun j x pv hj => (by omega), fun b c e => (by cases e), n2⟩ ?_
  rintro ⟨i, lab, qvs⟩ G w3 ⟨hi, hql, o3, hrest, hdone, hlow, n3⟩
  dsimp only at hi hql o3 hrest hdone hlow n3
  simp only [upds]
  (repeat' (first | refine Wl.moveE (by conv => { lhs; whnf }) ?_ | refine Wl.assignE (by conv => { lhs; whnf }) ?_ | refine Wl.nil ?_ | refine Qseq.normal ?_ | refine Wc.seq ?_ | refine Wc.region ?_ | refine Wc.block ?_ | refine Wc.skip ?_ | refine Wc.exit ?_ | refine Wc.ret ?_ | refine Qseq.exit ?_ | refine Qblk.hit ?_ | refine Qloop.exit ?_ | refine Wc.condT rfl ?_ | refine Wc.condF rfl ?_ | refine Wl.lss rfl rfl (fun _ => ?_) (fun _ => ?_)))
  · obtain ⟨x, hx⟩ := get_lt t (k := i) (by omega)
    obtain ⟨pv, hpv⟩ := get_lt pvs (k := i) (by omega)
    have hqv : qvs[i]? = some pv := (hrest i (Nat.le_refl _)).trans hpv
    have hz : (t.zip qvs)[i]? = some (x, pv) := by rw [List.getElem?_zip_eq_some]; exact ⟨hx, hqv⟩
    refine Wl.idxAddr (o3.rd (mono_flat ndV)) rfl rfl (by omega) hz fun b o cs hl hR hat => ?_
    obtain rfl : cs = ndV (x, pv) := hR
    (repeat' (refine Wl.fieldAddr rfl rfl ?_))
    refine Wl.load1 rfl (hat.get 2 rfl) ?_
    clear hat
    refine Wl.call (ClonePr_spec ((hpr i x pv hx hpv).keep (stable_flat pC) n3.keep) (hpl x (List.mem_of_getElem? hx))) rfl ?_
    rintro qv w4 ⟨oq, n4⟩
    have o4 := o3.new (plain_flat ndV) n4
    obtain ⟨qa, qc, rfl, _, _⟩ := oq.form
    have hqzl : (t.zip qvs).length = t.length := by simp [hql]
    refine Wl.idxP rfl rfl (by omega) (by omega) ?_
    (repeat' (refine Wl.fieldAddr rfl rfl ?_))
    refine Wl.storeOwnF (f := ndV) (sz := 3) (o := 2) (j := i) (p := (x, pv)) (q := (x, (qa, x.props.length, qc))) (u := .slice qa x.props.length qc) (cap := t.length) (fun _ => rfl) (by omega) rfl hz rfl o4 (by rw [hqzl]) (by show Value.pointer (some ⟨w.heap.size, 0 + (i : Int).toNat * 3 + 2, none⟩) = _; simp) rfl fun w5 o5 c5 => ?_
    rw [zip_set t qvs i x _ hx] at o5
    have hob : (Value.slice (some (⟨w.heap.size, 0, none⟩ : Addr)) t.length t.length).ownBlock = some w.heap.size := rfl
    have s3 := n3.size
    have s4 := n4.size
    have s5 := c5.size
    have sw : w.heap.size < w3.heap.size := (o3.lt hob).2
    have n5 : New w w5 := Chg.trans (New.trans n3 n4) c5 fun b hb e => by rw [hob, Option.some.injEq] at e; omega
    (repeat' (first | refine Wl.moveE (by conv => { lhs; whnf }) ?_ | refine Wl.nil ?_ | refine Qseq.normal ?_ | refine Wc.region ?_ | refine Qblk.normal ?_ | refine Wl.add rfl rfl (by omega) (by omega) ?_))
    refine Qloop.normal (i + 1, fun b => if b < w3.heap.size then lab b else if b < w4.heap.size then some (i + 1) else none, qvs.set i (qa, x.props.length, qc)) ⟨rfl, rfl, rfl, trivial⟩ ⟨by dsimp only; omega, by simpa using hql, o5, fun j hj => ?_, fun j y pw hj hy hw => ?_, fun b c e => ?_, n5⟩ (by dsimp only; omega)
    · dsimp only at hj ⊢
      rw [List.getElem?_set, if_neg (by omega)]
      exact hrest j (by omega)
    · dsimp only at hj hw ⊢
      rw [List.getElem?_set] at hw
      split at hw
      · rename_i e
        subst e
        split at hw
        · rw [hx] at hy
          cases hy
          cases hw
          have oq5 := oq.chg plainPr c5 (fun b hb e => by
            have := (oq.lt hb).1
            rw [hob, Option.some.injEq] at e; omega)
          exact oq5.reblk fun b hb e => by
            have := (oq.lt hb).2
            show (if b < w3.heap.size then lab b else if b < w4.heap.size then some (i + 1) else none) = _
            rw [if_neg (by omega), if_pos this]
        · cases hw
      · rename_i hne
        have hj' : j < i := by omega
        have h1 := hdone j y pw hj' hy hw
        have h2 := (h1.new plainPr n4).chg plainPr c5 (fun b hb e => by
          have := hlow b _ (h1.lt hb).1
          rw [hob, Option.some.injEq] at e; omega)
        exact h2.reblk fun b hb e => by
          show (if b < w3.heap.size then lab b else if b < w4.heap.size then some (i + 1) else none) = _
          rw [if_pos (h1.lt hb).2]; exact e
    · dsimp only at e
      split at e
      · have := hlow b c e; omega
      · split at e
        · cases e; omega
        · cases e
  · have e : i = t.length := by omega
    subst e
    refine Qfn.ret1 rfl rfl ⟨_, rfl, fun b => if b = w.heap.size then some 0 else lab b, qvs, ⟨hql, fun b c e => ?_, ?_, fun j x pv hx hp => ?_⟩, n3⟩
    · split at e
      · rename_i hb
        subst hb
        exact ⟨Nat.le_refl _, (o3.lt rfl).2⟩
      · have := hlow b c e; omega
    · exact o3.reblk fun b hb e => by rw [e, if_pos rfl]
    · have h1 := hdone j x pv (List.getElem?_eq_some_iff.1 hx).1 hx hp
      exact h1.reblk fun b hb e => by
        have := hlow b _ (h1.lt hb).1
        rw [if_neg (by omega)]; exact e
end Go.Proofs.YtjpebmgllfiloaaDoor
