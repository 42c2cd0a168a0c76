/-
  Texts of this claim, one behind the other: Lex, M4, M5, Row, Cut, Lit, Jg, Ut, M6, M7, M8, MC, MD, ME, It, MF, Bld, MG, If, MJ.
-/
import Derived.Test.YtpnpllghabbhlaaGreatDoorZb
import Derived.Lib.IndexLaws
import Derived.Lib.OthersKept
import Derived.Lib.TrimUEq
import Derived.Lib.IfaceEq
import Derived.WideLaws
namespace Go.Proofs.YtpnpllghabbhlaaGreatDoor.Wk
open Go Go.RowKit

section
variable {P : Program} {ops : Array Oper} {C : World → Prop} {Q : Exit → Act → World → Prop}
def isQ (ops : Array Oper) (i : Nat) : Bool := match ops[i]? with | some o => readB o.op | none => false
/-- The walk in the text's order, by the operations' numbers. -/
def TS (P : Program) (ops : Array Oper) (C : World → Prop) (Q : Exit → Act → World → Prop) : List Nat → Act → World → Prop
  | [], a, w => Q .normal a w
  | i :: l, a, w => if isQ ops i = true then (∃ o v, ops[i]? = some o ∧ YieldsIn P ops C o v a ∧ TS P ops C Q l (a.put o.dst v) w)
    else if i + 1 = ops.size then wpOp P ops Q i (fun a' w' => Q .normal a' w') a w else wpOp P ops QF i (fun a' w' => C w' ∧ TS P ops C Q l a' w') a w
def wd (a : Act) (ds : List Deferred) : Act := { a with defers := ds }
theorem wd_self (a : Act) : wd a a.defers = a := rfl
theorem wd_put (a : Act) (d : Option Tmp) (v : Value) (ds : List Deferred) : wd (a.put d v) ds = (wd a ds).put d v := by cases d <;> rfl
/-- Two operations that may change places. -/
structure Free (ops : Array Oper) (i j : Nat) : Prop where
  ex : ∃ oi oj, ops[i]? = some oi ∧ ops[j]? = some oj ∧ oi.apart ops oj = true ∧ oj.apart ops oi = true ∧ (∀ cs b, oi.op ≠ .select cs b) ∧ (∀ cs b, oj.op ≠ .select cs b)
  one : isQ ops i = true ∨ isQ ops j = true
  nl : i + 1 ≠ ops.size

theorem yields_unput {oi oj : Oper} {v u : Value} {a : Act} (h : oi.apart ops oj = true) (hs : ∀ cs b, oj.op ≠ .select cs b) : YieldsIn P ops C oj v (a.put oi.dst u) ↔ YieldsIn P ops C oj v a := by
  obtain ⟨h1, _, _⟩ := Oper.apart_spec h
  have e1 := execOp_put oj hs a oi.dst u h1
  have e2 := wanted_put oj a oi.dst u h1
  exact ⟨fun y => y.of_same e1.symm e2.symm, fun y => y.of_same e1 e2⟩
theorem yields_wd {o : Oper} {v : Value} {a : Act} {ds : List Deferred} : YieldsIn P ops C o v (wd a ds) ↔ YieldsIn P ops C o v a := by
  have e : (wd a ds).eval = a.eval := by funext x; cases x <;> rfl
  exact ⟨fun y => y.of_same (by rw [e]) rfl, fun y => y.of_same (by rw [e]) rfl⟩
theorem yields_unique {o : Oper} {v v' : Value} {a : Act} {w : World} (hC : C w) (hr : readB o.op = true) (h : YieldsIn P ops C o v a) (h' : YieldsIn P ops C o v' a) : v = v' := by
  rcases h with ⟨hw, hv⟩ | ⟨hw, rfl⟩ <;> rcases h' with ⟨hw', hv'⟩ | ⟨hw', rfl⟩
  · have h1 := hv w hC
    have h2 := hv' w hC
    have hne := @noEnter P o hr a.eval w
    unfold Oper.quietAt at h1 h2
    generalize (execOp a.eval o).run P w = r at *
    cases r with
    | ok n w' =>
      cases n <;> simp only [Oper.quietUpon] at h1 h2
      case value u => first | exact h1.2.symm.trans h2.2 | exact h1.1.symm.trans h2.1
      case skip => first | exact h1.2.trans h2.2.symm | exact h1.2.symm.trans h2.2
      case enter f args => exact (hne rfl).elim
    | halt x w' => simp only [Oper.quietUpon] at h1
  · rw [hw] at hw'; cases hw'
  · rw [hw] at hw'; cases hw'
  · rfl
/-- A chain operation has an outcome. -/
theorem wpOp_exists {i : Nat} {o : Oper} {K : Act → World → Prop} {a : Act} {w : World} (hi : ops[i]? = some o) (h : wpOp P ops QF i K a w) : ∃ u ds' w', K ((wd a ds').put o.dst u) w' := by
  unfold wpOp at h
  simp only [hi] at h
  split at h
  · rcases h with h | ⟨_, _, _, hq⟩
    · unfold Oper.wp at h
      generalize hr : (execOp a.eval o).run P w = r at h
      cases r with
      | ok nx w' =>
        cases nx with
        | value u => exact ⟨u, a.defers, w', h⟩
        | skip => exact ⟨undef, a.defers, w', h⟩
        | enter f args =>
          obtain ⟨e, w'', fr, he, _⟩ := h []
          cases e with
          | returned u => exact ⟨u, a.defers, w'', he⟩
          | panicked c => exact he.elim
          | outgrown => obtain ⟨_, _, hq⟩ := he; exact hq.elim
        | row r' args =>
          obtain ⟨u, w'', he, _⟩ := h (Frame.enter P 0 #[] .normal) []
          exact ⟨u, a.defers, w'', he⟩
        | defer d => exact ⟨undef, d :: a.defers, w', h⟩
        | _ => exact h.elim
      | halt x w' => cases x <;> exact h.elim
    · exact hq.elim
  · exact ⟨undef, a.defers, w, h⟩
/-- What an operation does is the same where another's slot holds something else. -/
theorem wpOp_reput {i : Nat} {oi oj : Oper} {v : Value} {K K' : Act → World → Prop} {a : Act} {w : World} (hi : ops[i]? = some oi) (hap : oj.apart ops oi = true) (hs : ∀ cs b, oi.op ≠ .select cs b)
    (hK : ∀ u ds' w', K ((wd a ds').put oi.dst u) w' → K' (((wd a ds').put oj.dst v).put oi.dst u) w') (h : wpOp P ops QF i K a w) : wpOp P ops QF i K' (a.put oj.dst v) w := by
  obtain ⟨h1, h2, h3⟩ := Oper.apart_spec hap
  unfold wpOp at *
  simp only [hi] at *
  rw [wanted_put oi a oj.dst v h1]
  split
  · rename_i hw
    simp only [hw, if_true] at h
    rcases h with h | ⟨_, a₀, w₀, hq⟩
    · refine .inl ?_
      unfold Oper.wp at *
      rw [execOp_put oi hs a oj.dst v h1]
      generalize (execOp a.eval oi).run P w = r at *
      cases r with
      | ok nx w' =>
        cases nx with
        | value u => exact hK _ a.defers _ h
        | skip => exact hK _ a.defers _ h
        | enter f args => exact Calls.mono h (fun e w'' he => by cases e with | returned u => exact hK _ a.defers _ he | panicked c => exact he.elim | outgrown => obtain ⟨a₀, w₀, hq⟩ := he; exact hq.elim)
        | row r' args => exact Rows.mono h (fun _ _ he => hK _ a.defers _ he)
        | defer d =>
          have := hK undef (d :: a.defers) _ h
          rw [← wd_put a oj.dst v] at this
          have e : (a.put oj.dst v).defers = a.defers := by cases oj.dst <;> rfl
          simp only [Oper.upon, e]
          exact this
        | _ => exact h.elim
      | halt x w' => cases x <;> exact h.elim
    · exact hq.elim
  · rename_i hw
    simp only [hw] at h
    exact hK _ a.defers _ h

theorem TS_quiet {j : Nat} {oj : Oper} {post : List Nat} (hj : ops[j]? = some oj) (hq : isQ ops j = true) : ∀ (pre : List Nat) (a : Act) (w : World), (∀ i ∈ pre, Free ops i j) → C w → TS P ops C Q (pre ++ j :: post) a w →
    ∃ v, YieldsIn P ops C oj v a ∧ TS P ops C Q (pre ++ post) (a.put oj.dst v) w
  | [], a, w, _, _, h => by
    rw [List.nil_append, TS, if_pos hq] at h
    obtain ⟨o, v, ho, hy, ht⟩ := h
    rw [hj] at ho
    cases ho
    exact ⟨v, hy, ht⟩
  | i :: pre, a, w, hf, hC, h => by
    obtain ⟨⟨oi, oj', hi, hj', h1, h2, s1, s2⟩, _, hnl⟩ := hf i (by simp)
    rw [hj] at hj'
    cases hj'
    have hrj : readB oj.op = true := by unfold isQ at hq; rw [hj] at hq; exact hq
    obtain ⟨_, hne, _⟩ := Oper.apart_spec h1
    rw [List.cons_append, TS] at h
    by_cases hqi : isQ ops i = true
    · rw [if_pos hqi] at h
      obtain ⟨o, vi, ho, hy, ht⟩ := h
      rw [hi] at ho
      cases ho
      obtain ⟨v, hyv, hts⟩ := TS_quiet hj hq pre _ w (fun k hk => hf k (by simp [hk])) hC ht
      refine ⟨v, (yields_unput h1 s2).1 hyv, ?_⟩
      rw [List.cons_append, TS, if_pos hqi]
      refine ⟨oi, vi, hi, (yields_unput h2 s1).2 hy, ?_⟩
      rw [← Act.put_comm a vi v hne]
      exact hts
    · rw [if_neg hqi, if_neg hnl] at h
      obtain ⟨u, ds', w', hC', ht'⟩ := wpOp_exists hi h
      obtain ⟨v, hyv, _⟩ := TS_quiet hj hq pre _ w' (fun k hk => hf k (by simp [hk])) hC' ht'
      have hya := yields_wd.1 ((yields_unput h1 s2).1 hyv)
      have key : wpOp P ops QF i (fun a' w' => C w' ∧ TS P ops C Q (pre ++ post) a' w') (a.put oj.dst v) w := by
        refine wpOp_reput hi h2 s1 ?_ h
        rintro u' ds1 w1 ⟨hC1, ht1⟩
        obtain ⟨v1, hy1, hts1⟩ := TS_quiet hj hq pre _ w1 (fun k hk => hf k (by simp [hk])) hC1 ht1
        have : v1 = v := yields_unique hC1 hrj (yields_wd.1 ((yields_unput h1 s2).1 hy1)) hya
        subst this
        refine ⟨hC1, ?_⟩
        rw [← Act.put_comm (wd a ds1) u' v1 hne]
        exact hts1
      refine ⟨v, hya, ?_⟩
      rw [List.cons_append, TS, if_neg hqi, if_neg hnl]
      exact key
/-- An operation that may come up now may be taken first. -/
theorem TS_first {j : Nat} {post : List Nat} (hjn : j < ops.size) : ∀ (pre : List Nat) (a : Act) (w : World), (∀ i ∈ pre, Free ops i j) → (isQ ops j = false → j + 1 = ops.size → pre = [] ∧ post = []) → C w → TS P ops C Q (pre ++ j :: post) a w →
    (isQ ops j = false ∧ pre ++ post = [] ∧ wpOp P ops Q j (fun a' w' => Q .normal a' w') a w) ∨ wpOp P ops QF j (fun a' w' => C w' ∧ TS P ops C Q (pre ++ post) a' w') a w := by
  intro pre a w hf hlast hC h
  obtain ⟨oj, hj⟩ : ∃ oj, ops[j]? = some oj := ⟨ops[j], Array.getElem?_eq_getElem hjn⟩
  cases hq : isQ ops j with
  | true =>
    obtain ⟨v, hy, ht⟩ := TS_quiet hj hq pre a w hf hC h
    have hrj : readB oj.op = true := by unfold isQ at hq; rw [hj] at hq; exact hq
    exact .inr (YieldsS.wpOp hj hy hrj hC ⟨hC, ht⟩)
  | false =>
    have hl := hlast hq
    clear hlast
    by_cases hpost : j + 1 = ops.size
    · obtain ⟨rfl, rfl⟩ := hl hpost
      rw [List.nil_append, TS, if_neg (by rw [hq]; simp), if_pos hpost] at h
      exact .inl ⟨rfl, rfl, h⟩
    · right
      clear hl
      induction pre generalizing a with
      | nil =>
        rw [List.nil_append, TS, if_neg (by rw [hq]; simp), if_neg hpost] at h
        exact h
      | cons i pre ih =>
        obtain ⟨⟨oi, oj', hi, hj', h1, h2, s1, s2⟩, hone, _⟩ := hf i (by simp)
        rw [hj] at hj'
        cases hj'
        have hqi : isQ ops i = true := by rcases hone with h | h; exact h; rw [hq] at h; cases h
        rw [List.cons_append, TS, if_pos hqi] at h
        obtain ⟨o, vi, ho, hy, ht⟩ := h
        rw [hi] at ho
        cases ho
        have := ih _ (fun k hk => hf k (by simp [hk])) ht
        refine wpOp_mono (fun a' w' h' => ?_) (wpOp_put hj h1 s1 s2 hy this)
        obtain ⟨hy', hC', ht'⟩ := h'
        refine ⟨hC', ?_⟩
        rw [List.cons_append, TS, if_pos hqi]
        exact ⟨oi, vi, hi, hy', ht'⟩

/-! All that must come ahead of an operation. -/
def okPair (ops : Array Oper) (i j : Nat) : Bool := (ahead ops ops.size [j]).contains i ||
  ((isQ ops i || isQ ops j) && match ops[i]?, ops[j]? with | some oi, some oj => oi.apart ops oj && oj.apart ops oi | _, _ => false)
def okT (ops : Array Oper) : Bool :=
  Region.noSelect ops && (List.range ops.size).all (fun j => (List.range j).all fun i => okPair ops i j) &&
  (List.range ops.size).all (fun j => match ops[j]? with | some o => o.after.all fun e => !Region.binds .any e || decide (e.on < j) | none => true) &&
  (isQ ops (ops.size - 1) || (List.range ops.size).all fun k => (ahead ops ops.size [ops.size - 1]).contains k)
def left (ops : Array Oper) (listed : Array Bool) : List Nat := (List.range ops.size).filter fun i => !listed.getD i true
theorem left_set {listed : Array Bool} {i : Nat} (hs : listed.size = ops.size) (hi : i < ops.size) : left ops (listed.setIfInBounds i true) = (left ops listed).filter (fun k => k != i) := by
  unfold left
  rw [List.filter_filter]
  apply List.filter_congr
  intro k hk
  by_cases hki : k = i
  · subst hki
    simp [Array.getD_eq_getD_getElem?, hs, hi]
  · have h1 := getD_set_ne (listed := listed) (i := i) (j := k) true (Ne.symm hki)
    rw [h1]
    simp [hki]
theorem nodup_filter {l pre post : List Nat} {i : Nat} (h : l.Nodup) (e : l = pre ++ i :: post) : l.filter (fun k => k != i) = pre ++ post := by
  subst e
  have h' := List.nodup_append.1 h
  have hi : i ∉ post := (List.nodup_cons.1 h'.2.1).1
  have hp : i ∉ pre := fun hm => h'.2.2 i hm i (by simp) rfl
  rw [List.filter_append, List.filter_cons, if_neg (by simp)]
  congr 1
  · refine List.filter_eq_self.2 fun k hk => ?_
    have : k ≠ i := fun e => hp (by rw [← e]; exact hk)
    simpa using this
  · refine List.filter_eq_self.2 fun k hk => ?_
    have : k ≠ i := fun e => hi (by rw [← e]; exact hk)
    simpa using this
theorem wpAny_of_TS (hok : okT ops = true) : ∀ (fuel : Nat) (listed : Array Bool) (a : Act) (w : World), listed.size = ops.size → (left ops listed).length = fuel → Clos ops listed → (fuel ≠ 0 → C w) → TS P ops C Q (left ops listed) a w → wpAny P .any ops Q fuel listed a w := by
  simp only [okT, Bool.and_eq_true] at hok
  obtain ⟨⟨⟨hns, hpair⟩, hdown⟩, hlast⟩ := hok
  have hsel := Region.noSelect_spec hns
  have rdy : ∀ listed : Array Bool, listed.size = ops.size → ∀ i, i ∈ Region.ready .any ops listed → i ∈ left ops listed := by
    intro listed hs i hi
    obtain ⟨h0, o, ho, _⟩ := mem_ready.1 hi
    unfold left
    rw [List.mem_filter, List.mem_range]
    exact ⟨(Array.getElem?_eq_some_iff.1 ho).1, by simp [h0]⟩
  intro fuel
  induction fuel with
  | zero =>
    intro listed a w hs hl hcl hC h
    have hnil : left ops listed = [] := List.eq_nil_of_length_eq_zero hl
    rw [hnil] at h
    refine ⟨?_, h⟩
    rw [List.eq_nil_iff_forall_not_mem]
    intro i hi
    have := rdy listed hs i hi
    rw [hnil] at this
    cases this
  | succ fuel ih =>
    intro listed a w hs hl hcl hC h
    replace hC := hC (by simp)
    refine ⟨fun h0 => ?_, fun j hj => ?_⟩
    · exfalso
      cases hL : left ops listed with
      | nil => rw [hL] at hl; cases hl
      | cons i l =>
        have hmem : i ∈ left ops listed := by rw [hL]; simp
        have hmem' := hmem
        unfold left at hmem
        rw [List.mem_filter, List.mem_range] at hmem
        have hall : ∀ k, k < i → listed.getD k false = true := by
          intro k hk
          have hks : k < ops.size := by omega
          cases hb : listed.getD k true with
          | true => simpa [Array.getD_eq_getD_getElem?, hs, hks] using hb
          | false =>
            have hkm : k ∈ left ops listed := by unfold left; rw [List.mem_filter, List.mem_range]; exact ⟨hks, by simp [hb]⟩
            have hsort : (left ops listed).Pairwise (· < ·) := List.Pairwise.sublist List.filter_sublist List.pairwise_lt_range
            rw [hL] at hkm hsort
            rcases List.mem_cons.1 hkm with e | e
            · omega
            · have := (List.pairwise_cons.1 hsort).1 k e; omega
        have : i ∈ Region.ready .any ops listed := by
          refine mem_ready.2 ⟨by simpa using hmem.2, ops[i], Array.getElem?_eq_getElem hmem.1, fun e he hb => ?_⟩
          have h3 := List.all_eq_true.1 hdown i (List.mem_range.2 hmem.1)
          rw [Array.getElem?_eq_getElem hmem.1] at h3
          have h4 := Array.all_eq_true'.1 h3 e he
          rw [hb] at h4
          exact hall e.on (by simpa using h4)
        rw [h0] at this
        cases this
    · obtain ⟨pre, post, hL⟩ := List.append_of_mem (rdy listed hs j hj)
      rw [hL] at h
      obtain ⟨_, oj, hoj, _⟩ := mem_ready.1 hj
      have hjs : j < ops.size := (Array.getElem?_eq_some_iff.1 hoj).1
      have hnd : (left ops listed).Nodup := List.Nodup.sublist List.filter_sublist List.nodup_range
      have hsort : (left ops listed).Pairwise (· < ·) := List.Pairwise.sublist List.filter_sublist List.pairwise_lt_range
      have hunl : ∀ i ∈ left ops listed, i < ops.size ∧ listed.getD i true = false := fun i hi => by
        unfold left at hi
        rw [List.mem_filter, List.mem_range] at hi
        exact ⟨hi.1, by simpa using hi.2⟩
      have hbehind : ∀ k, k ∈ ahead ops ops.size [j] → k = j ∨ listed.getD k false = true := ahead_spec hcl hj _ _ (by simp)
      have hfree : ∀ i ∈ pre, Free ops i j := by
        intro i hi
        have him : i ∈ left ops listed := by rw [hL]; simp [hi]
        obtain ⟨his, hun⟩ := hunl i him
        have hij : i < j := by rw [hL] at hsort; exact (List.pairwise_append.1 hsort).2.2 i hi j (by simp)
        have h3 := List.all_eq_true.1 (List.all_eq_true.1 hpair j (List.mem_range.2 hjs)) i (List.mem_range.2 hij)
        unfold okPair at h3
        simp only [Bool.or_eq_true, Bool.and_eq_true, Array.getElem?_eq_getElem his, Array.getElem?_eq_getElem hjs] at h3
        rcases h3 with h3 | ⟨h3, h4, h5⟩
        · exfalso
          rcases hbehind i (by simpa using h3) with e | e
          · omega
          · simp [Array.getD_eq_getD_getElem?, hs, his] at hun e
            rw [hun] at e; cases e
        · exact ⟨⟨_, _, Array.getElem?_eq_getElem his, Array.getElem?_eq_getElem hjs, h4, h5, fun cs b => hsel i _ cs b (Array.getElem?_eq_getElem his), fun cs b => hsel j _ cs b (Array.getElem?_eq_getElem hjs)⟩, h3, by omega⟩
      have hlst : isQ ops j = false → j + 1 = ops.size → pre = [] ∧ post = [] := by
        intro hq hje
        have hj1 : ops.size - 1 = j := by omega
        rw [hj1, hq, Bool.false_or] at hlast
        have all : ∀ i ∈ left ops listed, i = j := fun i hi => by
          obtain ⟨his, hun⟩ := hunl i hi
          rcases hbehind i (by simpa using List.all_eq_true.1 hlast i (List.mem_range.2 his)) with e | e
          · exact e
          · simp [Array.getD_eq_getD_getElem?, hs, his] at hun e
            rw [hun] at e; cases e
        rw [hL] at all hnd
        have h' := List.nodup_append.1 hnd
        constructor
        · cases pre with
          | nil => rfl
          | cons i pre => exact absurd (all i (by simp)) (h'.2.2 i (by simp) j (by simp))
        · cases post with
          | nil => rfl
          | cons i post =>
            have := all i (by simp)
            subst this
            exact absurd (by simp) (List.nodup_cons.1 h'.2.1).1
      have hset : left ops (listed.setIfInBounds j true) = pre ++ post := by rw [left_set hs hjs]; exact nodup_filter hnd hL
      have hlen : (pre ++ post).length = fuel := by have := hl; rw [hL] at this; simp at this ⊢; omega
      have hcl' := hcl.set hj
      rcases TS_first hjs pre a w hfree hlst hC h with ⟨_, he, hw⟩ | hw
      · refine wpOp_mono (fun a' w' h' => ih _ a' w' (by simpa using hs) (by rw [hset]; exact hlen) hcl' (fun hne => ?_) ?_) hw
        · rw [he] at hlen; exact absurd hlen.symm hne
        · rw [hset, he]; exact h'
      · exact wpOp_of_QF (fun a' w' h' => ih _ a' w' (by simpa using hs) (by rw [hset]; exact hlen) hcl' (fun _ => h'.1) (by rw [hset]; exact h'.2)) hw
end

section
variable {P : Program} {n : Nat} {ds : List Deferred} {Q : Po} {F : Fr} {ops : List Oper} {C : World → Prop} {w : World}
/-- The walk in the text's order: what only reads holds in every world of the class; each other operation but the last leaves a world of the class. -/
def Wt (P : Program) (n : Nat) (ds : List Deferred) (C : World → Prop) (Q : Po) (ops : List Oper) : List Oper → Fr → World → Prop
  | [], F, w => Q .normal F w
  | o :: l, F, w => if readB o.op = true then Wq P n ds C (fun F' => Wt P n ds C Q ops l F' w) ops [o] F
    else if l.isEmpty = true then Wl P n ds Q ops [o] F w else Wl P n ds (fun e F' w' => e = .normal ∧ C w' ∧ Wt P n ds C Q ops l F' w') ops [o] F w
theorem Wt.nil (h : Q .normal F w) : Wt P n ds C Q ops [] F w := h
theorem Wt.quiet {o : Oper} {l : List Oper} (hr : readB o.op = true) (h : Wq P n ds C (fun F' => Wt P n ds C Q ops l F' w) ops [o] F) : Wt P n ds C Q ops (o :: l) F w := by
  unfold Wt; rw [if_pos hr]; exact h
theorem Wt.chain {o o2 : Oper} {l : List Oper} (hr : readB o.op = false) (h : Wl P n ds (fun e F' w' => e = .normal ∧ C w' ∧ Wt P n ds C Q ops (o2 :: l) F' w') ops [o] F w) : Wt P n ds C Q ops (o :: o2 :: l) F w := by
  unfold Wt; rw [if_neg (by rw [hr]; simp), if_neg (by simp)]; exact h
theorem Wt.last {o : Oper} (hr : readB o.op = false) (h : Wl P n ds Q ops [o] F w) : Wt P n ds C Q ops [o] F w := by
  unfold Wt; rw [if_neg (by rw [hr]; simp), if_pos List.isEmpty_nil]; exact h
theorem Wt.guardY {o : Oper} {l : List Oper} {j : Nat} {b : Bool} (hg : o.guard = some (j, b)) (hy : yld ops n F j = some b) (h : Wt P n ds C Q ops ({ o with guard := none } :: l) F w) : Wt P n ds C Q ops (o :: l) F w := by
  unfold Wt at h ⊢
  split
  · rename_i hr
    rw [if_pos hr] at h
    exact Wq.guardY hg hy h
  · rename_i hr
    rw [if_neg hr] at h
    split
    · rename_i he; rw [if_pos he] at h; exact Wl.guardY hg hy h
    · rename_i he; rw [if_neg he] at h; exact Wl.guardY hg hy h
theorem Wt.guardN {op : Op} {d : Nat} {ty : TypeId} {pos : String} {aft : Array Edge} {l : List Oper} {j : Nat} {b c : Bool} (hy : yld ops n F j = some c) (hbc : (c == b) = false) (hC : C w) (h : Wt P n ds C Q ops l (upd F d undef) w) :
    Wt P n ds C Q ops (⟨some d, op, ty, pos, aft, some (j, b)⟩ :: l) F w := by
  unfold Wt
  split
  · exact Wq.guardN hy hbc (Wq.nil h)
  · split
    · rename_i he
      have : l = [] := by simpa using he
      subst this
      unfold Wt at h
      exact Wl.guardN hy hbc (Wl.nil h)
    · exact Wl.guardN hy hbc (Wl.nil ⟨rfl, hC, h⟩)
theorem TS_of_Wt : ∀ (l : List Oper) (k : Nat) (F : Fr) (w : World), (∀ j, l[j]? = ops[k + j]?) → Wt P n ds C Q ops l F w → TS P ops.toArray C (QA n ds Q) ((List.range l.length).map (k + ·)) (act n ds F) w
  | [], k, F, w, _, h => ⟨F, rfl, h⟩
  | o :: l, k, F, w, hl, h => by
    have h0 : ops[k]? = some o := by simpa using (hl 0).symm
    have h0' : ops.toArray[k]? = some o := by simpa using h0
    have hl' : ∀ j, l[j]? = ops[k + 1 + j]? := fun j => by have := hl (j + 1); simpa [Nat.add_assoc, Nat.add_comm 1 j] using this
    have e1 : (List.range (o :: l).length).map (k + ·) = k :: (List.range l.length).map (k + 1 + ·) := by
      rw [List.length_cons, List.range_succ_eq_map, List.map_cons, List.map_map, Nat.add_zero]
      congr 1
      apply List.map_congr_left
      intro j _
      show k + (j + 1) = k + 1 + j
      omega
    have hlen : (k + 1 = ops.toArray.size) ↔ l = [] := by
      have h2 := hl' 0
      constructor
      · intro e
        have hz : ops.toArray.size = ops.length := by simp
        have hz2 : ops.length ≤ k + 1 + 0 := by omega
        rw [List.getElem?_eq_none hz2] at h2
        cases l with
        | nil => rfl
        | cons _ _ => simp at h2
      · intro e
        subst e
        have hk := (List.getElem?_eq_some_iff.1 h0).1
        have : ops[k + 1 + 0]? = none := by rw [← h2]; rfl
        have := List.getElem?_eq_none_iff.1 this
        simp; omega
    have hq : isQ ops.toArray k = readB o.op := by unfold isQ; rw [h0']
    rw [e1, TS, hq]
    unfold Wt at h
    split
    · rename_i hr
      rw [if_pos hr] at h
      unfold Wq at h
      have hst : qOp P ops.toArray C k (fun a => ∃ F', a = act n ds F' ∧ Wt P n ds C Q ops l F' w) (act n ds F) := by unfold qOp; simp only [h0']; exact h
      obtain ⟨v, hy, F', hF, hw⟩ := yieldsIn_of_qOp h0' hst
      refine ⟨o, v, h0', hy, ?_⟩
      rw [hF]
      exact TS_of_Wt l (k + 1) F' w hl' hw
    · rename_i hr
      rw [if_neg hr] at h
      split
      · rename_i he
        have := hlen.1 he
        subst this
        rw [if_pos List.isEmpty_nil] at h
        exact wpOp_of_Wl h0 h
      · rename_i he
        rw [if_neg (by simpa using fun e => he (hlen.2 e))] at h
        refine wpOp_noQ ?_ ?_ (wpOp_of_Wl h0 h)
        · rintro e a' w' hne ⟨F', _, h', _⟩; exact hne h'
        · rintro a' w' ⟨F', rfl, _, hC, h'⟩
          exact ⟨hC, TS_of_Wt l (k + 1) F' w' hl' h'⟩
/-- A region that draws its order, by one walk in the text's order. -/
theorem Wc.regionT {rid : Nat} (hm : P.follows .mixedOrders = true) (hB : okT ops.toArray = true) (C : World → Prop) (hC : C w.drew) (h : ∀ w', New w w' → Wt P n ds C Q ops ops F w') : Wc P n ds Q (.region rid ops.toArray true) F w := by
  unfold Wc
  refine wp_region_any hm ?_
  have hleft : left ops.toArray (Array.replicate ops.toArray.size false) = (List.range ops.length).map (0 + ·) := by
    unfold left
    rw [show ((fun x => 0 + x) : Nat → Nat) = id from funext fun x => Nat.zero_add x, List.map_id]
    simp only [List.size_toArray]
    refine List.filter_eq_self.2 fun k hk => ?_
    have := List.mem_range.1 hk
    simp [Array.getD_eq_getD_getElem?, Array.getElem?_replicate, this]
  have h0 : Clos ops.toArray (Array.replicate ops.toArray.size false) := by
    intro j o hj
    exfalso
    simp only [Array.getD_eq_getD_getElem?, Array.getElem?_replicate] at hj
    split at hj <;> simp at hj
  refine wpAny_of_TS (C := C) hB _ _ _ _ (by simp) (by rw [hleft]; simp) h0 (fun _ => hC) ?_
  rw [hleft]
  exact TS_of_Wt ops 0 F w.drew (fun j => by rw [Nat.zero_add]) (h _ (Chg.drew _ _))
end
attribute [irreducible] Wt
end Go.Proofs.YtpnpllghabbhlaaGreatDoor.Wk

namespace Go.Proofs.YtpnpllghabbhlaaGreatDoor
open Go Wk
open Go.RowKit (Below)
attribute [local irreducible] Go.Calls

theorem get_byte (l : List UInt8) {k : Nat} (h : k < l.length) : ∃ c, l[k]? = some c := ⟨l[k], List.getElem?_eq_getElem h⟩
theorem IndexByte_spec {w : World} {l : List UInt8} {c : UInt8} : Calls Tryz.prog 26 #[vs l, .int .u8 c.toNat] w (Ret fun r w' => r = vi (Lib.indexByte l c) ∧ w = w') := by
  refine (Tryz.strings_IndexByte ⟨l.toArray⟩ c.toNat w).mono ?_
  rintro e w' ⟨rfl, rfl⟩
  exact ⟨_, rfl, by simp, rfl⟩
theorem all_step {α : Type} {p : α → Bool} {xs : List α} {i : Nat} {x : α} (h : xs[i]? = some x) (hi : (xs.take i).all p = true) (hx : p x = true) : (xs.take (i + 1)).all p = true := by
  rw [List.take_add_one, h, List.all_append, hi]; simp [hx]
theorem all_fail {α : Type} {p : α → Bool} {xs : List α} {i : Nat} {x : α} (h : xs[i]? = some x) (hx : p x = false) : xs.all p = false := by
  rw [List.all_eq_false]
  exact ⟨x, List.mem_of_getElem? h, by simp [hx]⟩
theorem plain_step {s : List UInt8} {i : Nat} {c : UInt8} (h : s[i]? = some c) (hi : (s.take i).all plainB = true) (h1 : 33 ≤ c.toNat) (h2 : c.toNat ≤ 126) (h3 : c.toNat ≠ 34) (h4 : c.toNat ≠ 92) : (s.take (i + 1)).all plainB = true :=
  all_step h hi (by unfold plainB; simp only [Bool.and_eq_true, decide_eq_true_eq]; exact ⟨⟨⟨h1, h2⟩, fun e => h3 (by rw [e]; rfl)⟩, fun e => h4 (by rw [e]; rfl)⟩)
theorem plain_fail {s : List UInt8} {i : Nat} {c : UInt8} (h : s[i]? = some c) (hc : c.toNat < 33 ∨ 126 < c.toNat ∨ c.toNat = 34 ∨ c.toNat = 92) : plainW s = false := by
  have : plainB c = false := by
    unfold plainB
    rw [Bool.eq_false_iff]
    simp only [ne_eq, Bool.and_eq_true, decide_eq_true_eq]
    rintro ⟨⟨⟨h1, h2⟩, h3⟩, h4⟩
    rcases hc with e | e | e | e
    · omega
    · omega
    · exact h3 (UInt8.toNat.inj e)
    · exact h4 (UInt8.toNat.inj e)
  unfold plainW
  rw [all_fail h this, Bool.and_false]
theorem plain_end {s : List UInt8} {i : Nat} (h : (s.take i).all plainB = true) (hi : s.length ≤ i) : plainW s = decide (s ≠ []) := by
  rw [List.take_of_length_le hi] at h
  unfold plainW
  rw [h, Bool.and_true]
theorem plainR_spec {w : World} {s : List UInt8} (hl : s.length ≤ 100000000) : Calls Tryz.prog 31 #[vs s] w (Ret fun r w' => r = .bool (plainW s) ∧ w = w') := by
  refine calls_of_Wc Tryz.func31 rfl Tryz.ntmps31 rfl ?_
  (repeat' (first | refine Wl.assignE (by conv => { lhs; whnf }) ?_ | refine Wl.nil ?_ | refine Qseq.normal ?_ | refine Wc.seq ?_ | refine Wc.region ?_ | refine Wc.block ?_))
  refine Wc.loop (σ := Nat) (fun i => [(0, vs s), (3, vi i)]) (fun i w' => i ≤ s.length ∧ (s.take i).all plainB = true ∧ w = w') (fun i => s.length - i) 0 ⟨rfl, rfl, trivial⟩ ⟨Nat.zero_le _, rfl, rfl⟩ ?_
  rintro i G _ ⟨hi, hall, rfl⟩
  simp only [upds]
  (repeat' (first | refine Wl.moveE (by conv => { lhs; whnf }) ?_ | refine Wl.assignE (by conv => { lhs; whnf }) ?_ | refine Wl.nil ?_ | refine Wl.lenStr rfl ?_ | refine Qseq.normal ?_ | refine Wc.seq ?_ | refine Wc.region ?_ | refine Wc.block ?_ | refine Wc.skip ?_ | refine Wc.exit ?_ | refine Wc.ret ?_ | refine Qseq.exit ?_ | refine Qblk.hit ?_ | refine Qloop.exit ?_ | refine Wc.condT rfl ?_ | refine Wc.condF rfl ?_ | refine Wl.lss rfl rfl (fun _ => ?_) (fun _ => ?_) | refine Wl.sneq rfl rfl (fun _ => ?_) (fun _ => ?_)))
  · obtain ⟨c, hc⟩ := get_byte s (k := i) (by omega)
    refine Wl.idxStr rfl rfl (by omega) (by rw [Int.toNat_natCast]; exact hc) ?_
    (repeat' (first | refine Wl.moveE (by conv => { lhs; whnf }) ?_ | refine Wl.assignE (by conv => { lhs; whnf }) ?_ | refine Wl.nil ?_ | refine Wl.guardY rfl rfl ?_ | refine Wl.guardN rfl rfl ?_ | refine Wl.pickTE rfl (by conv => { lhs; whnf }) ?_ | refine Qseq.normal ?_ | refine Wc.seq ?_ | refine Wc.region ?_ | refine Wc.ret ?_ | refine Qseq.ret ?_ | refine Qblk.ret ?_ | refine Qloop.ret ?_ | refine Wc.condT rfl ?_ | refine Wl.lss rfl rfl (fun _ => ?_) (fun _ => ?_)))
    · exact Qfn.ret1 rfl rfl ⟨_, rfl, by rw [plain_fail hc (by omega)]; rfl, rfl⟩
    refine Wl.idxStr rfl rfl (by omega) (by rw [Int.toNat_natCast]; exact hc) ?_
    (repeat' (first | refine Wl.moveE (by conv => { lhs; whnf }) ?_ | refine Wl.assignE (by conv => { lhs; whnf }) ?_ | refine Wl.nil ?_ | refine Wl.guardY rfl rfl ?_ | refine Wl.guardN rfl rfl ?_ | refine Wl.pickTE rfl (by conv => { lhs; whnf }) ?_ | refine Wl.pickFE rfl (by conv => { lhs; whnf }) ?_ | refine Qseq.normal ?_ | refine Wc.seq ?_ | refine Wc.region ?_ | refine Wc.ret ?_ | refine Qseq.ret ?_ | refine Qblk.ret ?_ | refine Qloop.ret ?_ | refine Wc.condT rfl ?_ | refine Wl.gtr rfl rfl (fun _ => ?_) (fun _ => ?_)))
    · exact Qfn.ret1 rfl rfl ⟨_, rfl, by rw [plain_fail hc (by omega)]; rfl, rfl⟩
    refine Wl.idxStr rfl rfl (by omega) (by rw [Int.toNat_natCast]; exact hc) ?_
    (repeat' (first | refine Wl.moveE (by conv => { lhs; whnf }) ?_ | refine Wl.assignE (by conv => { lhs; whnf }) ?_ | refine Wl.nil ?_ | refine Wl.guardY rfl rfl ?_ | refine Wl.guardN rfl rfl ?_ | refine Wl.pickTE rfl (by conv => { lhs; whnf }) ?_ | refine Wl.pickFE rfl (by conv => { lhs; whnf }) ?_ | refine Qseq.normal ?_ | refine Wc.seq ?_ | refine Wc.region ?_ | refine Wc.ret ?_ | refine Qseq.ret ?_ | refine Qblk.ret ?_ | refine Qloop.ret ?_ | refine Wc.condT rfl ?_ | refine Wl.eql rfl rfl (fun _ => ?_) (fun _ => ?_)))
    · exact Qfn.ret1 rfl rfl ⟨_, rfl, by rw [plain_fail hc (by omega)]; rfl, rfl⟩
    refine Wl.idxStr rfl rfl (by omega) (by rw [Int.toNat_natCast]; exact hc) ?_
    (repeat' (first | refine Wl.moveE (by conv => { lhs; whnf }) ?_ | refine Wl.assignE (by conv => { lhs; whnf }) ?_ | refine Wl.nil ?_ | refine Wl.guardY rfl rfl ?_ | refine Wl.pickFE rfl (by conv => { lhs; whnf }) ?_ | refine Qseq.normal ?_ | refine Wc.seq ?_ | refine Wc.region ?_ | refine Wc.skip ?_ | refine Wc.ret ?_ | refine Qseq.ret ?_ | refine Qblk.normal ?_ | refine Qblk.ret ?_ | refine Qloop.ret ?_ | refine Wc.condT rfl ?_ | refine Wc.condF rfl ?_ | refine Wl.add rfl rfl (by omega) (by omega) ?_ | refine Wl.eql rfl rfl (fun _ => ?_) (fun _ => ?_)))
    · exact Qfn.ret1 rfl rfl ⟨_, rfl, by rw [plain_fail hc (by omega)]; rfl, rfl⟩
    exact Qloop.normal (i + 1) ⟨rfl, rfl, trivial⟩ ⟨by omega, plain_step hc hall (by omega) (by omega) (by omega) (by omega), rfl⟩ (by omega)
  · refine Qfn.ret1 rfl rfl ⟨_, rfl, ?_, rfl⟩
    rw [plain_end hall (by omega), decide_eq_true (by assumption)]; rfl
  · refine Qfn.ret1 rfl rfl ⟨_, rfl, ?_, rfl⟩
    rw [plain_end hall (by omega), decide_eq_false fun e => e (by assumption)]; rfl
theorem plain_spec {w : World} {s : List UInt8} (hl : s.length ≤ 100000000) : Calls Tryz.prog 34 #[vs s] w (Ret fun r w' => r = .bool (plainW s) ∧ New w w') := by
  refine calls_of_Wc Tryz.func34 rfl Tryz.ntmps34 rfl ?_
  (repeat' (first | refine Wl.moveE (by conv => { lhs; whnf }) ?_ | refine Wl.assignE (by conv => { lhs; whnf }) ?_ | refine Wl.nil ?_ | refine Qseq.normal ?_ | refine Wc.seq ?_ | refine Wc.region ?_))
  refine Wl.strBytes rfl (by simp only [maxLen]; omega) fun w1 cap C fr _ _ _ n1 _ hr => ?_
  (repeat' (first | refine Wl.moveE (by conv => { lhs; whnf }) ?_ | refine Wl.nil ?_ | refine Wl.lenS rfl ?_ | refine Qseq.normal ?_ | refine Wc.block ?_))
  refine Wc.loop (σ := Nat) (fun i => [(0, vs s), (6, .slice (some ⟨w.heap.size, 0, none⟩) s.length cap), (7, vi s.length), (8, vi i)]) (fun i w' => i ≤ s.length ∧ (s.take i).all plainB = true ∧ w1 = w') (fun i => s.length - i) 0 ⟨rfl, rfl, rfl, rfl, trivial⟩ ⟨Nat.zero_le _, rfl, rfl⟩ ?_
  rintro i G _ ⟨hi, hall, rfl⟩
  simp only [upds]
  (repeat' (first | refine Wl.moveE (by conv => { lhs; whnf }) ?_ | refine Wl.assignE (by conv => { lhs; whnf }) ?_ | refine Wl.nil ?_ | refine Qseq.normal ?_ | refine Wc.seq ?_ | refine Wc.region ?_ | refine Wc.block ?_ | refine Wc.skip ?_ | refine Wc.exit ?_ | refine Wc.ret ?_ | refine Qseq.exit ?_ | refine Qblk.hit ?_ | refine Qloop.exit ?_ | refine Wc.condT rfl ?_ | refine Wc.condF rfl ?_ | refine Wl.lss rfl rfl (fun _ => ?_) (fun _ => ?_) | refine Wl.sneq rfl rfl (fun _ => ?_) (fun _ => ?_)))
  · obtain ⟨c, hc⟩ := get_byte s (k := i) (by omega)
    refine Wl.idxAddrV hr rfl rfl (by omega) hc fun b o hcell => ?_
    refine Wl.load1 rfl hcell ?_
    (repeat' (first | refine Wl.moveE (by conv => { lhs; whnf }) ?_ | refine Wl.assignE (by conv => { lhs; whnf }) ?_ | refine Wl.nil ?_ | refine Wl.guardY rfl rfl ?_ | refine Wl.guardN rfl rfl ?_ | refine Wl.pickTE rfl (by conv => { lhs; whnf }) ?_ | refine Wl.pickFE rfl (by conv => { lhs; whnf }) ?_ | refine Qseq.normal ?_ | refine Wc.seq ?_ | refine Wc.region ?_ | refine Wc.skip ?_ | refine Wc.ret ?_ | refine Qseq.ret ?_ | refine Qblk.normal ?_ | refine Qblk.ret ?_ | refine Qloop.ret ?_ | refine Wc.condT rfl ?_ | refine Wc.condF rfl ?_ | refine Wl.add rfl rfl (by omega) (by omega) ?_ | refine Wl.lss rfl rfl (fun _ => ?_) (fun _ => ?_) | refine Wl.gtr rfl rfl (fun _ => ?_) (fun _ => ?_) | refine Wl.eql rfl rfl (fun _ => ?_) (fun _ => ?_)))
    · exact Qfn.ret1 rfl rfl ⟨_, rfl, by rw [plain_fail hc (by omega)]; rfl, n1⟩
    · exact Qfn.ret1 rfl rfl ⟨_, rfl, by rw [plain_fail hc (by omega)]; rfl, n1⟩
    · exact Qfn.ret1 rfl rfl ⟨_, rfl, by rw [plain_fail hc (by omega)]; rfl, n1⟩
    · exact Qfn.ret1 rfl rfl ⟨_, rfl, by rw [plain_fail hc (by omega)]; rfl, n1⟩
    · exact Qloop.normal (i + 1) ⟨rfl, rfl, rfl, rfl, trivial⟩ ⟨by omega, plain_step hc hall (by omega) (by omega) (by omega) (by omega), rfl⟩ (by omega)
  · refine Qfn.ret1 rfl rfl ⟨_, rfl, ?_, n1⟩
    rw [plain_end hall (by omega), decide_eq_true (by assumption)]; rfl
  · refine Qfn.ret1 rfl rfl ⟨_, rfl, ?_, n1⟩
    rw [plain_end hall (by omega), decide_eq_false fun e => e (by assumption)]; rfl
end Go.Proofs.YtpnpllghabbhlaaGreatDoor

namespace Go.Proofs.YtpnpllghabbhlaaGreatDoor
open Go Wk
open Go.RowKit (Below)
attribute [local irreducible] Go.Calls

def hexS : List UInt8 := [48, 49, 50, 51, 52, 53, 54, 55, 56, 57, 97, 98, 99, 100, 101, 102]
theorem hexS_get {i : Nat} (h : i < 16) : hexS[i]? = some (hexd i) := by
  have : ∀ i : Fin 16, hexS[i.val]? = some (hexd i.val) := by decide
  exact this ⟨i, h⟩
/-- A digit's worth; -1: it is none. -/
def digI (c : UInt8) : Int := match hexl c with | some n => n | none => -1
theorem hexl_some {c : UInt8} {n : Nat} (h : hexl c = some n) : n < 16 ∧ c = hexd n := by
  unfold hexl at h
  split at h
  · obtain rfl := Option.some.inj h
    have hn : c.toNat - 48 < 16 := by omega
    refine ⟨hn, UInt8.toNat.inj ?_⟩
    rw [hexd_nat hn, if_pos (by omega)]; omega
  · split at h
    · obtain rfl := Option.some.inj h
      have hn : c.toNat - 87 < 16 := by omega
      refine ⟨hn, UInt8.toNat.inj ?_⟩
      rw [hexd_nat hn, if_neg (by omega)]; omega
    · cases h
theorem digI_hexd {i : Nat} (h : i < 16) : digI (hexd i) = (i : Int) := by unfold digI; rw [hexl_hexd h]
theorem upto_next {p : Nat → Prop} {i : Nat} (h : ∀ j, j < i → p j) (hi : p i) : ∀ j, j < i + 1 → p j := fun j hj => by
  rcases Nat.lt_or_ge j i with h1 | h1
  · exact h j h1
  · obtain rfl : j = i := by omega
    exact hi
theorem digI_none {c : UInt8} (h : ∀ j, j < 16 → hexd j ≠ c) : digI c = -1 := by
  unfold digI
  cases e : hexl c with
  | none => rfl
  | some n => exact absurd (hexl_some e).2.symm (h n (hexl_some e).1)
theorem digit1_spec {w : World} {c : UInt8} : Calls Tryz.prog 38 #[.int .u8 c.toNat] w (Ret fun r w' => r = vi (digI c) ∧ w = w') := by
  refine calls_of_Wc Tryz.func38 rfl Tryz.ntmps38 rfl ?_
  (repeat' (first | refine Wl.assignE (by conv => { lhs; whnf }) ?_ | refine Wl.nil ?_ | refine Qseq.normal ?_ | refine Wc.seq ?_ | refine Wc.region ?_ | refine Wc.block ?_))
  refine Wc.loop (σ := Nat) (fun i => [(0, .int .u8 c.toNat), (3, vi i)]) (fun i w' => i ≤ 16 ∧ (∀ j, j < i → hexd j ≠ c) ∧ w = w') (fun i => 16 - i) 0 ⟨rfl, rfl, trivial⟩ ⟨Nat.zero_le _, fun j hj => absurd hj (Nat.not_lt_zero _), rfl⟩ ?_
  rintro i G _ ⟨hi, hall, rfl⟩
  simp only [upds]
  (repeat' (first | refine Wl.moveE (by conv => { lhs; whnf }) ?_ | refine Wl.assignE (by conv => { lhs; whnf }) ?_ | refine Wl.nil ?_ | refine Qseq.normal ?_ | refine Wc.seq ?_ | refine Wc.region ?_ | refine Wc.block ?_ | refine Wc.skip ?_ | refine Wc.exit ?_ | refine Wc.ret ?_ | refine Qseq.exit ?_ | refine Qblk.hit ?_ | refine Qloop.exit ?_ | refine Wc.condT rfl ?_ | refine Wc.condF rfl ?_ | refine Wl.lss rfl rfl (fun _ => ?_) (fun _ => ?_)))
  · have hc := hexS_get (i := i) (by omega)
    refine Wl.idxStr (l := hexS) rfl rfl (by omega) (by rw [Int.toNat_natCast]; exact hc) ?_
    (repeat' (first | refine Wl.moveE (by conv => { lhs; whnf }) ?_ | refine Wl.assignE (by conv => { lhs; whnf }) ?_ | refine Wl.nil ?_ | refine Qseq.normal ?_ | refine Wc.seq ?_ | refine Wc.region ?_ | refine Wc.skip ?_ | refine Wc.ret ?_ | refine Qseq.ret ?_ | refine Qblk.normal ?_ | refine Qblk.ret ?_ | refine Qloop.ret ?_ | refine Wc.condT rfl ?_ | refine Wc.condF rfl ?_ | refine Wl.add rfl rfl (by omega) (by omega) ?_ | refine Wl.eql rfl rfl (fun _ => ?_) (fun _ => ?_)))
    · have e : hexd i = c := by apply UInt8.toNat.inj; omega
      exact Qfn.ret1 rfl rfl ⟨_, rfl, by rw [← e, digI_hexd (by omega)]; rfl, rfl⟩
    · have e : hexd i ≠ c := fun e => by subst e; omega
      exact Qloop.normal (i + 1) ⟨rfl, rfl, trivial⟩ ⟨by omega, upto_next hall e, rfl⟩ (by omega)
  · exact Qfn.ret1 rfl rfl ⟨_, rfl, by rw [digI_none fun j hj => hall j (by omega)]; rfl, rfl⟩
theorem digit32_spec {w : World} {c : UInt8} : Calls Tryz.prog 53 #[.int .u8 c.toNat] w (Ret fun r w' => r = vi (digI c) ∧ w = w') := by
  refine calls_of_Wc Tryz.func53 rfl Tryz.ntmps53 rfl ?_
  (repeat' (first | refine Wl.assignE (by conv => { lhs; whnf }) ?_ | refine Wl.nil ?_ | refine Qseq.normal ?_ | refine Wc.seq ?_ | refine Wc.region ?_ | refine Wc.block ?_))
  refine Wc.loop (σ := Nat) (fun i => [(0, .int .u8 c.toNat), (3, vi i)]) (fun i w' => i ≤ 16 ∧ (∀ j, j < i → hexd j ≠ c) ∧ w = w') (fun i => 16 - i) 0 ⟨rfl, rfl, trivial⟩ ⟨Nat.zero_le _, fun j hj => absurd hj (Nat.not_lt_zero _), rfl⟩ ?_
  rintro i G _ ⟨hi, hall, rfl⟩
  simp only [upds]
  (repeat' (first | refine Wl.moveE (by conv => { lhs; whnf }) ?_ | refine Wl.assignE (by conv => { lhs; whnf }) ?_ | refine Wl.nil ?_ | refine Qseq.normal ?_ | refine Wc.seq ?_ | refine Wc.region ?_ | refine Wc.block ?_ | refine Wc.skip ?_ | refine Wc.exit ?_ | refine Wc.ret ?_ | refine Qseq.exit ?_ | refine Qblk.hit ?_ | refine Qloop.exit ?_ | refine Wc.condT rfl ?_ | refine Wc.condF rfl ?_ | refine Wl.lss rfl rfl (fun _ => ?_) (fun _ => ?_)))
  · have hc := hexS_get (i := i) (by omega)
    refine Wl.idxStr (l := hexS) rfl rfl (by omega) (by rw [Int.toNat_natCast]; exact hc) ?_
    (repeat' (first | refine Wl.moveE (by conv => { lhs; whnf }) ?_ | refine Wl.assignE (by conv => { lhs; whnf }) ?_ | refine Wl.nil ?_ | refine Qseq.normal ?_ | refine Wc.seq ?_ | refine Wc.region ?_ | refine Wc.skip ?_ | refine Wc.ret ?_ | refine Qseq.ret ?_ | refine Qblk.normal ?_ | refine Qblk.ret ?_ | refine Qloop.ret ?_ | refine Wc.condT rfl ?_ | refine Wc.condF rfl ?_ | refine Wl.add rfl rfl (by omega) (by omega) ?_ | refine Wl.eql rfl rfl (fun _ => ?_) (fun _ => ?_)))
    · have e : hexd i = c := by apply UInt8.toNat.inj; omega
      exact Qfn.ret1 rfl rfl ⟨_, rfl, by rw [← e, digI_hexd (by omega)]; rfl, rfl⟩
    · have e : hexd i ≠ c := fun e => by subst e; omega
      exact Qloop.normal (i + 1) ⟨rfl, rfl, trivial⟩ ⟨by omega, upto_next hall e, rfl⟩ (by omega)
  · exact Qfn.ret1 rfl rfl ⟨_, rfl, by rw [digI_none fun j hj => hall j (by omega)]; rfl, rfl⟩
/-- Digits, two a byte, or a dash. -/
def hexM (s : List UInt8) : Bool := decide (s = [45]) || (s.all (fun c => (hexl c).isSome) && (decide (2 ≤ s.length) && decide (s.length % 2 = 0)))
theorem digI_neg {c : UInt8} (h : digI c < 0) : (hexl c).isSome = false := by
  unfold digI at h
  cases e : hexl c with
  | none => rfl
  | some n => rw [e] at h; dsimp only at h; omega
theorem digI_pos {c : UInt8} (h : 0 ≤ digI c) : (hexl c).isSome = true := by
  unfold digI at h
  cases e : hexl c with
  | none => rw [e] at h; exact absurd h (by decide)
  | some n => rfl
theorem hexR_spec {w : World} {s : List UInt8} (hl : s.length ≤ 100000000) : Calls Tryz.prog 40 #[vs s] w (Ret fun r w' => r = .bool (hexM s) ∧ w = w') := by
  refine calls_of_Wc Tryz.func40 rfl Tryz.ntmps40 rfl ?_
  (repeat' (first | refine Wl.moveE (by conv => { lhs; whnf }) ?_ | refine Wl.assignE (by conv => { lhs; whnf }) ?_ | refine Wl.nil ?_ | refine Qseq.normal ?_ | refine Wc.seq ?_ | refine Wc.region ?_ | refine Wc.block ?_ | refine Wc.skip ?_ | refine Wc.ret ?_ | refine Qseq.ret ?_ | refine Wc.condT rfl ?_ | refine Wc.condF rfl ?_ | refine Wl.seql rfl rfl (fun _ => ?_) (fun _ => ?_)))
  · have e : s = [45] := by assumption
    exact Qfn.ret1 rfl rfl ⟨_, rfl, by rw [e]; rfl, rfl⟩
  have hd : decide (s = [45]) = false := decide_eq_false (by assumption)
  refine Wc.loop (σ := Nat) (fun i => [(0, vs s), (3, vi i)]) (fun i w' => i ≤ s.length ∧ (s.take i).all (fun c => (hexl c).isSome) = true ∧ w = w') (fun i => s.length - i) 0 ⟨rfl, rfl, trivial⟩ ⟨Nat.zero_le _, rfl, rfl⟩ ?_
  rintro i G _ ⟨hi, hall, rfl⟩
  simp only [upds]
  (repeat' (first | refine Wl.moveE (by conv => { lhs; whnf }) ?_ | refine Wl.assignE (by conv => { lhs; whnf }) ?_ | refine Wl.nil ?_ | refine Wl.guardY rfl rfl ?_ | refine Wl.guardN rfl rfl ?_ | refine Wl.pickFE rfl (by conv => { lhs; whnf }) ?_ | refine Wl.lenStr rfl ?_ | refine Qseq.normal ?_ | refine Wc.seq ?_ | refine Wc.region ?_ | refine Wc.block ?_ | refine Wc.skip ?_ | refine Wc.exit ?_ | refine Wc.ret ?_ | refine Qseq.exit ?_ | refine Qblk.hit ?_ | refine Qloop.exit ?_ | refine Wc.condT rfl ?_ | refine Wc.condF rfl ?_ | refine Wl.lss rfl rfl (fun _ => ?_) (fun _ => ?_) | refine Wl.geq rfl rfl (fun _ => ?_) (fun _ => ?_)))
  · obtain ⟨c, hc⟩ := get_byte s (k := i) (by omega)
    refine Wl.idxStr rfl rfl (by omega) (by rw [Int.toNat_natCast]; exact hc) ?_
    skip
    refine Wl.call digit32_spec rfl ?_
    rintro _ _ ⟨rfl, rfl⟩
    (repeat' (first | refine Wl.moveE (by conv => { lhs; whnf }) ?_ | refine Wl.assignE (by conv => { lhs; whnf }) ?_ | refine Wl.nil ?_ | refine Qseq.normal ?_ | refine Wc.seq ?_ | refine Wc.region ?_ | refine Wc.skip ?_ | refine Wc.ret ?_ | refine Qseq.ret ?_ | refine Qblk.normal ?_ | refine Qblk.ret ?_ | refine Qloop.ret ?_ | refine Wc.condT rfl ?_ | refine Wc.condF rfl ?_ | refine Wl.add rfl rfl (by omega) (by omega) ?_ | refine Wl.lss rfl rfl (fun _ => ?_) (fun _ => ?_)))
    · exact Qfn.ret1 rfl rfl ⟨_, rfl, by unfold hexM; rw [hd, all_fail hc (digI_neg (by assumption))]; rfl, rfl⟩
    · exact Qloop.normal (i + 1) ⟨rfl, rfl, trivial⟩ ⟨by omega, all_step hc hall (digI_pos (by assumption)), rfl⟩ (by omega)
  · rw [List.take_of_length_le (by omega)] at hall
    have ht : (s.length : Int).tmod 2 = ((s.length % 2 : Nat) : Int) := rfl
    refine Wl.remW rfl rfl (by omega) ?_
    (repeat' (first | refine Wl.assignE (by conv => { lhs; whnf }) ?_ | refine Wl.nil ?_ | refine Wl.guardY rfl rfl ?_ | refine Wl.pickTE rfl (by conv => { lhs; whnf }) ?_ | refine Qseq.normal ?_ | refine Wc.ret ?_ | refine Wl.eql rfl rfl (fun _ => ?_) (fun _ => ?_)))
    · refine Qfn.ret1 rfl rfl ⟨_, rfl, ?_, rfl⟩
      unfold hexM
      rw [hd, hall, decide_eq_true (show 2 ≤ s.length by omega), decide_eq_true (show s.length % 2 = 0 by omega)]
      rfl
    · refine Qfn.ret1 rfl rfl ⟨_, rfl, ?_, rfl⟩
      unfold hexM
      rw [hd, hall, decide_eq_true (show 2 ≤ s.length by omega), decide_eq_false (show ¬ s.length % 2 = 0 by omega)]
      rfl
  · refine Qfn.ret1 rfl rfl ⟨_, rfl, ?_, rfl⟩
    unfold hexM
    rw [hd, decide_eq_false (show ¬ 2 ≤ s.length by omega), Bool.false_and, Bool.and_false]
    rfl
end Go.Proofs.YtpnpllghabbhlaaGreatDoor

namespace Go.Proofs.YtpnpllghabbhlaaGreatDoor.Wk
open Go Go.RowKit

theorem setRange_get (cs : List Value) (o : Nat) (new : List Value) (h : o + new.length ≤ cs.length) (q : Nat) : (setRange cs o new)[q]? = if o ≤ q ∧ q < o + new.length then new[q - o]? else cs[q]? := by
  unfold setRange
  rw [List.append_assoc, List.getElem?_append]
  simp only [List.length_take]
  split
  · rename_i h1
    rw [if_neg (by omega), List.getElem?_take, if_pos (by omega)]
  · rename_i h1
    rw [List.getElem?_append]
    split
    · rename_i h2
      rw [if_pos (by omega)]; congr 1; omega
    · rename_i h2
      rw [if_neg (by omega), List.getElem?_drop]; congr 1; omega
theorem setRange_length (cs : List Value) (o : Nat) (new : List Value) (h : o + new.length ≤ cs.length) : (setRange cs o new).length = cs.length := by
  unfold setRange; simp; omega
section
variable {P : Program} {n : Nat} {ds : List Deferred} {Q : Po} {F : Fr} {w w' : World} {ops rest : List Oper} {d d1 d2 : Nat} {ty ty1 ty2 : TypeId} {pos pos1 pos2 : String} {aft aft1 aft2 : Array Edge}
theorem OwnC.storeRange {Pb : Nat → Prop} {e : TypeId} {sz m g cap o : Nat} {v : Value} {cs new : List Value} (h : OwnC Pb w e sz v m cs) (hv : v = .slice (some ⟨g, 0, none⟩) m cap) (ho : o + new.length ≤ m * sz) (h1 : ∀ c ∈ new, c.oneCell' = true) :
    ∃ w', (storeCells ⟨g, o, none⟩ new 0).run P w = .ok () w' ∧ OwnC Pb w' e sz v m (setRange cs o new) ∧ Chg (fun b => v.ownBlock = some b) w w' := by
  obtain ⟨hl, hoc⟩ := h
  rcases hoc with ⟨rfl, _⟩ | ⟨g', cap', cur, rfl, hb, hg, h2, h3, h4, h5⟩
  · cases hv
  · cases hv
    have hms : m * sz ≤ cap * sz := Nat.mul_le_mul_right _ h2
    have hr := run_storeCells_at P g o e new 0 cur w hg (by omega) h1
    have hcl : cs.length = m * sz := hl
    refine ⟨_, hr, ⟨by rw [setRange_length _ _ _ (by omega)]; exact hl, .inr ⟨g, cap, _, rfl, hb, setRow_heap w g cur _ e _ hg, h2, h3, ?_, ?_⟩⟩, Chg.setRow rfl⟩
    · simp; omega
    · simp only [Nat.add_zero]
      apply List.ext_getElem?
      intro q
      rw [setRange_get cs o new (by omega)]
      rw [List.getElem?_take]
      have hcur : ∀ q, q < m * sz → cs[q]? = cur.toList[q]? := fun q hq => by rw [← h5, List.getElem?_take, if_pos hq]
      split
      · rename_i hq
        have := setRange_get cur.toList o new (by simp; omega) q
        unfold setRange at this
        rw [this]
        split
        · rfl
        · exact (hcur q hq).symm
      · rename_i hq
        rw [if_neg (by omega), List.getElem?_eq_none (by omega)]
/-- 's[j] = x', a struct into a list of one's own, the address told. -/
theorem Wl.storeOwnA {α : Type} {f : α → List Value} {Pb Pe : Nat → Prop} {xs : List α} {x y : Operand} {e sz bytes : Nat} {agg : Bool} {z v u : Value} {g j cap : Nat} {q : α} [he : ElT P e sz bytes agg z] (hf : ∀ x, (f x).length = sz) (h1 : ∀ x, ∀ c ∈ f x, c.oneCell' = true)
    (hown : OwnS (flat f) e sz Pb Pe w v xs) (hv : v = .slice (some ⟨g, 0, none⟩) xs.length cap) (hj : j < xs.length)
    (hx : ev n F x = .pointer (some ⟨g, j * sz, none⟩)) (hy : ev n F y = u) (hq : u.cells = (f q).toArray) (c : ∀ w', OwnS (flat f) e sz Pb Pe w' v (xs.set j q) → Chg (fun b => v.ownBlock = some b) w w' → Wl P n ds Q ops rest F w') :
    Wl P n ds Q ops (⟨none, .store e x y, ty, pos, aft, none⟩ :: rest) F w := by
  obtain ⟨cs, hoc, hel⟩ := hown
  have hjs : (j + 1) * sz ≤ xs.length * sz := Nat.mul_le_mul_right _ hj
  rw [Nat.add_mul] at hjs
  have hcl : cs.length = xs.length * sz := hoc.1
  obtain ⟨w', hr, hoc', hc⟩ := hoc.storeRange (P := P) (o := j * sz) (new := f q) hv (by rw [hf]; omega) (h1 q)
  refine Wl.unit (w' := w') ?_ (c w' ⟨setRange cs (j * sz) (f q), by simpa using hoc', fun i x hx => ?_⟩ hc)
  · have hs : u.cells.size = sz := by rw [hq]; simpa using hf q
    simp only [execOp, hx, hy, Instr.storeAt, Instr.sureAddr, storeVar, Sem.run_bind, Sem.run_pure, Result.andThen_ok, he.sizeOf, hq]
    rw [if_neg (by simp [hf])]
    simp only [hr, Result.andThen_ok]
  · have hi : i < xs.length := by have := (List.getElem?_eq_some_iff.1 hx).1; simpa using this
    have hi2 : (i + 1) * sz ≤ xs.length * sz := Nat.mul_le_mul_right _ hi
    rw [Nat.add_mul] at hi2
    rw [List.getElem?_set] at hx
    show _ = f x
    apply List.ext_getElem?
    intro k
    rw [List.getElem?_take, List.getElem?_drop, setRange_get _ _ _ (by rw [hf]; omega), hf]
    by_cases hk : k < sz
    · rw [if_pos hk]
      split at hx
      · rename_i e
        subst e
        simp only [hj, if_true, Option.some.injEq] at hx
        subst hx
        rw [if_pos (by omega)]; congr 1; omega
      · rename_i hne
        have hsep : ¬ (j * sz ≤ i * sz + k ∧ i * sz + k < j * sz + sz) := by
          rintro ⟨a1, a2⟩
          rcases Nat.lt_or_gt_of_ne hne with h | h
          · have : (j + 1) * sz ≤ i * sz := Nat.mul_le_mul_right _ h
            rw [Nat.add_mul] at this; omega
          · have : (i + 1) * sz ≤ j * sz := Nat.mul_le_mul_right _ h
            rw [Nat.add_mul] at this; omega
        rw [if_neg hsep]
        have h2 : (cs.drop (i * sz)).take sz = f x := hel i x hx
        rw [← h2, List.getElem?_take, if_pos hk, List.getElem?_drop]
    · rw [if_neg hk, List.getElem?_eq_none (by rw [hf]; omega)]
/-- 's[j].f = x', one cell of a struct in a list of one's own, the address told. -/
theorem Wl.storeOwnF {α : Type} {f : α → List Value} {Pb Pe : Nat → Prop} {xs : List α} {x y : Operand} {e e' sz bytes : Nat} {agg : Bool} {z v u : Value} {g j o cap : Nat} {p q : α} [he : ElT P e' 1 bytes agg z] (hf : ∀ x, (f x).length = sz) (ho : o < sz) (hu : u.oneCell' = true) (hp : xs[j]? = some p) (hpq : f q = (f p).set o u)
    (hown : OwnS (flat f) e sz Pb Pe w v xs) (hv : v = .slice (some ⟨g, 0, none⟩) xs.length cap)
    (hx : ev n F x = .pointer (some ⟨g, j * sz + o, none⟩)) (hy : ev n F y = u) (c : ∀ w', OwnS (flat f) e sz Pb Pe w' v (xs.set j q) → Chg (fun b => v.ownBlock = some b) w w' → Wl P n ds Q ops rest F w') :
    Wl P n ds Q ops (⟨none, .store e' x y, ty, pos, aft, none⟩ :: rest) F w := by
  obtain ⟨cs, hoc, hel⟩ := hown
  have hj : j < xs.length := (List.getElem?_eq_some_iff.1 hp).1
  have hjs : (j + 1) * sz ≤ xs.length * sz := Nat.mul_le_mul_right _ hj
  rw [Nat.add_mul] at hjs
  have hcl : cs.length = xs.length * sz := hoc.1
  have huc : u.cells = #[u] := by cases u <;> simp_all [Value.cells, Value.oneCell']
  obtain ⟨w', hr, hoc', hc⟩ := hoc.storeRange (P := P) (o := j * sz + o) (new := [u]) hv (by simp; omega) (by simpa using hu)
  refine Wl.unit (w' := w') ?_ (c w' ⟨setRange cs (j * sz + o) [u], by simpa using hoc', fun i x hx => ?_⟩ hc)
  · simp only [execOp, hx, hy, Instr.storeAt, Instr.sureAddr, storeVar, Sem.run_bind, Sem.run_pure, Result.andThen_ok, he.sizeOf, huc]
    rw [if_neg (by simp)]
    simp only [hr, Result.andThen_ok]
  · have hi : i < xs.length := by have := (List.getElem?_eq_some_iff.1 hx).1; simpa using this
    have hi2 : (i + 1) * sz ≤ xs.length * sz := Nat.mul_le_mul_right _ hi
    rw [Nat.add_mul] at hi2
    rw [List.getElem?_set] at hx
    show _ = f x
    apply List.ext_getElem?
    intro k
    rw [List.getElem?_take, List.getElem?_drop, setRange_get _ _ _ (by simp; omega), List.length_singleton]
    by_cases hk : k < sz
    · rw [if_pos hk]
      split at hx
      · rename_i e
        subst e
        simp only [hj, if_true, Option.some.injEq] at hx
        subst hx
        rw [hpq, List.getElem?_set]
        have h2 : (cs.drop (j * sz)).take sz = f p := hel j p hp
        by_cases hko : k = o
        · subst hko
          rw [if_pos (by omega), if_pos rfl, if_pos (by rw [hf]; exact hk), show j * sz + k - (j * sz + k) = 0 by omega]; rfl
        · rw [if_neg (by omega), if_neg (Ne.symm hko), ← h2, List.getElem?_take, if_pos hk, List.getElem?_drop]
      · rename_i hne
        have hsep : ¬ (j * sz + o ≤ i * sz + k ∧ i * sz + k < j * sz + o + 1) := by
          rintro ⟨a1, a2⟩
          rcases Nat.lt_or_gt_of_ne hne with h | h
          · have : (j + 1) * sz ≤ i * sz := Nat.mul_le_mul_right _ h
            rw [Nat.add_mul] at this; omega
          · have : (i + 1) * sz ≤ j * sz := Nat.mul_le_mul_right _ h
            rw [Nat.add_mul] at this; omega
        rw [if_neg hsep]
        have h2 : (cs.drop (i * sz)).take sz = f x := hel i x hx
        rw [← h2, List.getElem?_take, if_pos hk, List.getElem?_drop]
    · rw [if_neg hk, List.getElem?_eq_none (by rw [hf]; omega)]
/-- clear(s[i:]) of a list of one's own: what is ahead stays. -/
theorem run_clearTail {α : Type} {f : α → List Value} {Pb Pe : Nat → Prop} {xs : List α} {t e sz bytes : Nat} {agg : Bool} {z v : Value} {g cap i : Nat} (ht : P.underlying t = some (.slice e)) (he : ElT P e sz bytes agg z) (hz : ∀ c ∈ z.cells.toList, c.oneCell' = true)
    (hown : OwnS (flat f) e sz Pb Pe w v xs) (hv : v = .slice (some ⟨g, 0, none⟩) xs.length cap) (hi : i ≤ xs.length) (p : Addr) (hp : p = ⟨g, i * sz, none⟩ ∨ i = xs.length) :
    ∃ u w', (Builtin.clear_ #[t] ty #[.slice (some p) (xs.length - i) (cap - i)]).run P w = .ok u w' ∧ OwnS (flat f) e sz Pb Pe w' (.slice (some ⟨g, 0, none⟩) i cap) (xs.take i) ∧ Chg (fun b => v.ownBlock = some b) w w' := by
  have htk : ∀ w', OwnS (flat f) e sz Pb Pe w' v xs → OwnS (flat f) e sz Pb Pe w' (.slice (some ⟨g, 0, none⟩) i cap) (xs.take i) := fun w' h => h.take hi hv (by intro e; cases e)
  by_cases hie : i = xs.length
  · refine ⟨.tuple #[], w, ?_, htk w hown, Chg.refl _ _⟩
    subst hie
    simp [Builtin.clear_, run_underlying ht]
  · have hp' : p = ⟨g, i * sz, none⟩ := hp.resolve_right hie
    subst hp'
    obtain ⟨cs, hoc, hel⟩ := hown
    have hcl : cs.length = xs.length * sz := hoc.1
    have hle : i * sz ≤ xs.length * sz := Nat.mul_le_mul_right _ hi
    have hzl : (Builtin.zeroCells z.cells (xs.length - i)).toList.length = (xs.length - i) * sz := by rw [Array.length_toList, size_zeroCells, he.hz]
    obtain ⟨w', hr, hoc', hc⟩ := hoc.storeRange (P := P) (o := i * sz) (new := (Builtin.zeroCells z.cells (xs.length - i)).toList) hv (by rw [hzl, Nat.sub_mul]; omega) (by
      intro c hc
      simp only [Builtin.zeroCells, Array.toList_map, List.mem_map] at hc
      obtain ⟨q, hq, rfl⟩ := hc
      have hsz : 0 < z.cells.size := by
        rcases Nat.eq_zero_or_pos z.cells.size with h0 | h0
        · simp [h0] at hq
        · exact h0
      have hm := Nat.mod_lt q hsz
      refine hz _ ?_
      rw [getElem!_pos z.cells (q % z.cells.size) hm]
      simp)
    have hne : xs.length - i ≠ 0 := by omega
    refine ⟨.tuple #[], w', ?_, ?_, hc⟩
    · obtain ⟨k, hk⟩ : ∃ k, xs.length - i = k + 1 := ⟨xs.length - i - 1, by omega⟩
      rw [hk] at hr ⊢
      simp [Builtin.clear_, run_underlying ht, he.zeroValue, hr]
    · refine ⟨cs.take (i * sz), ⟨by rw [List.length_take, List.length_take, Nat.min_eq_left (by omega), Nat.min_eq_left hi], ?_⟩, fun q x hx => ?_⟩
      · rcases hoc'.2 with ⟨e1, _⟩ | ⟨g', cap', cur, e1, hb, hg, h1, h2, h3, h4⟩
        · rw [hv] at e1; cases e1
        · rw [hv] at e1
          cases e1
          have hl : (xs.take i).length = i := by simp; omega
          rw [hl]
          refine .inr ⟨g, cap, cur, rfl, hb, hg, by omega, h2, h3, ?_⟩
          have : cur.toList.take (i * sz) = (setRange cs (i * sz) (Builtin.zeroCells z.cells (xs.length - i)).toList).take (i * sz) := by rw [← h4, List.take_take, Nat.min_eq_left hle]
          rw [this]
          unfold setRange
          rw [List.append_assoc, List.take_append_of_le_length (by simp; omega), List.take_take, Nat.min_self]
      · rw [List.getElem?_take] at hx
        split at hx
        · rename_i hq
          have h1 := hel q x hx
          have : (q + 1) * sz ≤ i * sz := Nat.mul_le_mul_right _ hq
          rw [Nat.add_mul] at this
          show _ = f x
          rw [List.drop_take, List.take_take, Nat.min_eq_left (by omega)]
          exact h1
        · cases hx
/-- clear(s[i:]). -/
theorem Wl.clearTail {α : Type} {f : α → List Value} {Pb Pe : Nat → Prop} {xs : List α} {x lo : Operand} {t e sz bytes : Nat} {agg : Bool} {z v : Value} {k : IntKind} {g cap i : Nat} [ht : Und P t (.slice e)] [he : ElT P e sz bytes agg z] (hz : ∀ c ∈ z.cells.toList, c.oneCell' = true)
    (hown : OwnS (flat f) e sz Pb Pe w v xs) (hv : v = .slice (some ⟨g, 0, none⟩) xs.length cap) (hx : ev n F x = v) (hl : ev n F lo = .int k i) (hi : i ≤ xs.length) (hd : Nat.blt d1 n = true)
    (c : ∀ u w', OwnS (flat f) e sz Pb Pe w' (.slice (some ⟨g, 0, none⟩) i cap) (xs.take i) → Chg (fun b => v.ownBlock = some b) w w' → Wl P n ds Q ops rest (upd F d1 u) w') :
    Wl P n ds Q ops (⟨some d1, .slice t x (some lo) none none, ty1, pos1, aft1, none⟩ :: ⟨none, .call { callee := .builtin .clear, args := #[.tmp d1], argTypes := #[t] }, ty2, pos2, aft2, none⟩ :: rest) F w := by
  obtain ⟨_, cap', e1, hcap, _⟩ := hown.form
  have hcap2 : xs.length ≤ cap := by rw [hv] at e1; cases e1; exact hcap
  have hs := run_sliceS (P := P) (w := w) (p := some ⟨g, 0, none⟩) (l := xs.length) (cap := cap) (lo := some (.int k i)) (hi := none) (a := i) (b := xs.length) ht.h he (.inr ⟨k, rfl⟩) (.inl ⟨rfl, rfl⟩) hi hcap2
  have hp : (if cap = i then some (⟨g, 0, none⟩ : Addr) else Option.map (·.add (i * sz)) (some (⟨g, 0, none⟩ : Addr))) = some (if cap = i then ⟨g, 0, none⟩ else ⟨g, i * sz, none⟩) := by
    split
    · rfl
    · rw [Option.map_some, addr_add, Nat.zero_add]
  rw [hp] at hs
  obtain ⟨u, w', hr, ho, hc⟩ := run_clearTail (P := P) (ty := ty2) (w := w) ht.h he hz hown hv hi (if cap = i then ⟨g, 0, none⟩ else ⟨g, i * sz, none⟩) (by
    by_cases hci : cap = i
    · right; omega
    · left; rw [if_neg hci])
  refine Wl.val (w' := w) (v := .slice (some (if cap = i then ⟨g, 0, none⟩ else ⟨g, i * sz, none⟩)) (xs.length - i) (cap - i)) ?_ ?_
  · simp only [execOp, hx, hl, hv, Option.map_none, Option.map_some, Sem.run_bind, hs, Result.andThen_ok, Sem.run_pure]
  · refine Wl.valO (dst := none) (w' := w') (v := u) ?_ (c _ w' ho hc)
    have ed : ev n (upd F d1 (.slice (some (if cap = i then ⟨g, 0, none⟩ else ⟨g, i * sz, none⟩)) (xs.length - i) (cap - i))) (.tmp d1) = .slice (some (if cap = i then ⟨g, 0, none⟩ else ⟨g, i * sz, none⟩)) (xs.length - i) (cap - i) := by
      simp only [ev, hd, upd_eq, if_pos]
    simp only [execOp, resolve, invoke, builtin, Sem.run_bind, Sem.run_pure, Result.andThen_ok, List.map_toArray, List.map_cons, List.map_nil, ed, hr]
/-- x[:b], told. -/
theorem Wl.sliceToP {x hi : Operand} {t e sz bytes : Nat} {agg : Bool} {z : Value} {k : IntKind} {p : Option Addr} {l cap b : Nat} [ht : Und P t (.slice e)] [he : ElT P e sz bytes agg z] (hx : ev n F x = .slice p l cap) (hh : ev n F hi = .int k b) (h1 : b ≤ cap)
    (c : Wl P n ds Q ops rest (upd F d (.slice p b cap)) w) : Wl P n ds Q ops (⟨some d, .slice t x none (some hi) none, ty, pos, aft, none⟩ :: rest) F w := by
  have := run_sliceS (P := P) (w := w) (p := p) (l := l) (lo := none) (hi := some (.int k b)) (a := 0) (b := b) ht.h he (.inl ⟨rfl, rfl⟩) (.inr ⟨k, rfl⟩) (Nat.zero_le _) h1
  have hp : (if cap = 0 then p else p.map (·.add (0 * sz))) = p := by
    split
    · rfl
    · cases p with
      | none => rfl
      | some a => simp [Addr.add]
  refine Wl.val (w' := w) (v := .slice p b cap) ?_ c
  simp only [execOp, hx, hh, Option.map_none, Option.map_some, Sem.run_bind, this, Result.andThen_ok, Sem.run_pure, hp, Nat.sub_zero]
/-- What stands between two pieces of code, told: the ways of the first come together. -/
theorem Wc.cut {a b : Code} (M : Fr → World → Prop) (h1 : Wc P n ds (fun e F w => e = .normal ∧ M F w) a F w) (h2 : ∀ F w, M F w → Wc P n ds Q b F w) : Wc P n ds Q (.seq a b) F w := by
  unfold Wc at *
  refine wp_seq (wp_mono h1 ?_)
  rintro e a' w' ⟨F', rfl, he, hM⟩
  subst he
  exact h2 F' w' hM
end
end Go.Proofs.YtpnpllghabbhlaaGreatDoor.Wk

namespace Go.Proofs.YtpnpllghabbhlaaGreatDoor.Wk
open Go Go.RowKit

section
variable {P : Program} {n : Nat} {ds : List Deferred} {Q : Po} {F : Fr} {w w' : World} {M : Fr → World → Prop}
def Qm (M : Fr → World → Prop) (Q : Po) : Po
  | .normal, F, w => M F w
  | e, F, w => Q e F w
theorem Qm.normal (h : M F w) : Qm M Q .normal F w := h
theorem Qm.ret (h : Q .ret F w) : Qm M Q .ret F w := h
theorem Qm.exit {id : Nat} (h : Q (.exit id) F w) : Qm M Q (.exit id) F w := h
theorem Qm.panic {c : List PanicEntry} (h : Q (.panic c) F w) : Qm M Q (.panic c) F w := h
theorem Wc.cutR {a b : Code} (M : Fr → World → Prop) (h1 : Wc P n ds (Qm M Q) a F w) (h2 : ∀ F w, M F w → Wc P n ds Q b F w) : Wc P n ds Q (.seq a b) F w := by
  unfold Wc at *
  refine wp_seq (wp_mono h1 ?_)
  rintro e a' w' ⟨F', rfl, hM⟩
  cases e with
  | normal => exact h2 F' w' hM
  | _ => exact ⟨F', rfl, hM⟩
attribute [irreducible] Qm
end
section
variable {P : Program} {n : Nat} {ds : List Deferred} {Q : Po} {F : Fr} {w w' : World} {ops rest : List Oper} {d : Nat} {ty : TypeId} {pos : String} {aft : Array Edge} {C : World → Prop} {K : Fr → Prop}
/-- Behind a test that was not made. -/
theorem Wl.guardU {op : Op} {j : Nat} {b : Bool} (hy : yld ops n F j = none) (k : Wl P n ds Q ops rest (upd F d undef) w) : Wl P n ds Q ops (⟨some d, op, ty, pos, aft, some (j, b)⟩ :: rest) F w := by
  have hw : Region.wanted ⟨some d, op, ty, pos, aft, some (j, b)⟩ (yielded ops.toArray (act n ds F).tmps) = false := by
    simp only [Region.wanted, act, yielded_eq, hy]; rfl
  unfold Wl at k ⊢
  rw [wpList, if_neg (by rw [hw]; simp), act_put]
  exact k
theorem Wq.guardU {op : Op} {j : Nat} {b : Bool} (hy : yld ops n F j = none) (k : Wq P n ds C K ops rest (upd F d undef)) : Wq P n ds C K ops (⟨some d, op, ty, pos, aft, some (j, b)⟩ :: rest) F := by
  have hw : Region.wanted ⟨some d, op, ty, pos, aft, some (j, b)⟩ (yielded ops.toArray (act n ds F).tmps) = false := by
    simp only [Region.wanted, act, yielded_eq, hy]; rfl
  unfold Wq at k ⊢
  rw [wpQuiet, if_neg (by rw [hw]; simp), act_put]
  exact k
theorem Wt.guardU {op : Op} {l : List Oper} {j : Nat} {b : Bool} (hy : yld ops n F j = none) (hC : C w) (h : Wt P n ds C Q ops l (upd F d undef) w) :
    Wt P n ds C Q ops (⟨some d, op, ty, pos, aft, some (j, b)⟩ :: l) F w := by
  unfold Wt
  split
  · exact Wq.guardU hy (Wq.nil h)
  · split
    · rename_i he
      have : l = [] := by simpa using he
      subst this
      unfold Wt at h
      exact Wl.guardU hy (Wl.nil h)
    · exact Wl.guardU hy (Wl.nil ⟨rfl, hC, h⟩)
end
end Go.Proofs.YtpnpllghabbhlaaGreatDoor.Wk

namespace Go.Proofs.YtpnpllghabbhlaaGreatDoor.Wk
open Go Go.RowKit

def numb : Nat → List Value → List (Nat × Value)
  | _, [] => []
  | k, u :: us => (k, u) :: numb (k + 1) us
theorem fill_dense (sz : Nat) : ∀ (us : List Value) (k : Nat) (pre zs : List Value), pre.length = k * sz → zs.length = us.length * sz → (∀ u ∈ us, u.cells.size = sz) →
    Instr.fill (fun i => some (i * sz, sz)) (pre ++ zs).toArray (numb k us) = some (pre ++ us.flatMap fun u => u.cells.toList).toArray
  | [], k, pre, zs, hp, hz, _ => by
    have : zs = [] := List.eq_nil_of_length_eq_zero (by simpa using hz)
    subst this
    simp [numb, Instr.fill]
  | u :: us, k, pre, zs, hp, hz, h => by
    have hu := h u (by simp)
    simp only [List.length_cons, Nat.add_mul, Nat.one_mul] at hz
    simp only [numb, Instr.fill, hu]
    rw [if_neg (by simp; omega)]
    have hsp : zs = zs.take sz ++ zs.drop sz := (List.take_append_drop sz zs).symm
    have h1 := foldl_fill (k * sz) u.cells.toList 0 pre (zs.drop sz) (zs.take sz) (by simp [hu]; omega) (by omega)
    rw [List.append_assoc, ← hsp] at h1
    rw [← Array.foldl_toList, Array.toList_zipIdx]
    have h2 : List.foldl (fun (cs : Array Value) (x : Value × Nat) => match x with | (c, j) => cs.setIfInBounds (k * sz + j) c) (pre ++ zs).toArray (u.cells.toList.zipIdx) = (pre ++ u.cells.toList ++ zs.drop sz).toArray := h1
    rw [h2, fill_dense sz us (k + 1) (pre ++ u.cells.toList) (zs.drop sz) (by simp [hu, hp, Nat.add_mul]) (by simp; omega) fun v hv => h v (by simp [hv])]
    simp
def AllR {α : Type} (R : Rel α) (sz : Nat) (Pb : Nat → Prop) (w : World) : List α → List Value → Prop
  | [], [] => True
  | x :: xs, u :: us => u.cells.size = sz ∧ R Pb w x u.cells.toList ∧ AllR R sz Pb w xs us
  | _, _ => False
theorem AllR.length {α : Type} {R : Rel α} {sz : Nat} {Pb : Nat → Prop} {w : World} : ∀ {xs : List α} {us : List Value}, AllR R sz Pb w xs us → us.length = xs.length ∧ ∀ u ∈ us, u.cells.size = sz
  | [], [], _ => ⟨rfl, by simp⟩
  | x :: xs, u :: us, h => by
    obtain ⟨h1, _, h2⟩ := h
    have := h2.length
    exact ⟨by simp [this.1], fun v hv => by rcases List.mem_cons.1 hv with rfl | hv; exact h1; exact this.2 v hv⟩
  | [], _ :: _, h => h.elim
  | _ :: _, [], h => h.elim
theorem AllR.get {α : Type} {R : Rel α} {sz : Nat} {Pb : Nat → Prop} {w : World} : ∀ {xs : List α} {us : List Value} {i : Nat} {x : α}, AllR R sz Pb w xs us → xs[i]? = some x → R Pb w x (((us.flatMap fun u => u.cells.toList).drop (i * sz)).take sz)
  | [], [], i, x, _, h => by simp at h
  | y :: xs, u :: us, i, x, h, hx => by
    obtain ⟨h1, h2, h3⟩ := h
    have hl : u.cells.toList.length = sz := by simpa using h1
    cases i with
    | zero =>
      simp at hx
      subst hx
      simp only [List.flatMap_cons, Nat.zero_mul, List.drop_zero]
      rw [List.take_append_of_le_length (by omega), List.take_of_length_le (by omega)]
      exact h2
    | succ i =>
      have := h3.get (i := i) (by simpa using hx)
      rw [List.flatMap_cons, List.drop_append, List.drop_eq_nil_of_le (show u.cells.toList.length ≤ (i + 1) * sz by rw [hl, Nat.add_mul]; omega), List.nil_append, hl, Nat.add_mul, Nat.one_mul, Nat.add_sub_cancel]
      exact this
  | [], _ :: _, _, _, h, _ => h.elim
  | _ :: _, [], _, _, h, _ => h.elim
section
variable {P : Program} {n : Nat} {ds : List Deferred} {Q : Po} {F : Fr} {w w' : World} {ops rest : List Oper} {d d1 d2 : Nat} {ty ty1 ty2 : TypeId} {pos pos1 pos2 : String} {aft aft1 aft2 : Array Edge}
theorem flat_len {us : List Value} {sz : Nat} (h : ∀ u ∈ us, u.cells.size = sz) : (us.flatMap fun u => u.cells.toList).length = us.length * sz := by
  induction us with
  | nil => simp
  | cons u us ih => simp [ih fun v hv => h v (by simp [hv]), h u (by simp), Nat.add_mul]; omega
theorem run_buildSliceN {t e : TypeId} {sz bytes : Nat} {agg : Bool} {z : Value} {us : List Value} (ht : P.underlying t = some (.slice e)) (he : ElT P e sz bytes agg z) (hv : ∀ u ∈ us, u.cells.size = sz) (hs : 0 < us.length * sz) (hs2 : us.length * sz ≤ 16777216) :
    (Instr.buildSlice t us.length (numb 0 us).toArray).run P w = .ok (.slice (some ⟨w.heap.size, 0, none⟩) us.length us.length) (w.alloc (.cells (us.flatMap fun u => u.cells.toList).toArray e)) := by
  have hne : ¬ us.length * sz = 0 := by omega
  have hz := he.hz
  have e3 := fill_dense sz us 0 [] (((List.range (us.length * sz)).map fun i => z.cells[i % z.cells.size]!)) (by simp) (by simp) hv
  have e4 : (Array.range (us.length * sz)).map (fun i => z.cells[i % z.cells.size]!) = (((List.range (us.length * sz)).map fun i => z.cells[i % z.cells.size]!)).toArray := by
    apply Array.ext'
    simp [Array.toList_range]
  rw [List.nil_append, List.nil_append, ← e4] at e3
  simp only [Instr.buildSlice, Sem.run_bind, run_underlying ht, Result.andThen_ok, he.sizeOf]
  rw [if_neg (by omega), if_neg hne]
  simp only [Sem.run_bind, Result.andThen_ok, he.zeroValue, Sem.run_pure, e3, newRow, run_newObj]
  rfl
/-- []T{a, b, ..}, a list of one's own. -/
theorem Wl.buildSliceN {α : Type} {R : Rel α} {N : Nat} {ps : List (Nat × Operand)} {t e : TypeId} {sz bytes : Nat} {agg : Bool} {z : Value} {xs : List α} {us : List Value} {Pe : Nat → Prop} (hR : GoodR R sz) [ht : Und P t (.slice e)] [he : ElT P e sz bytes agg z] (hN : us.length = N) (hps : ps.map (fun p => (p.1, ev n F p.2)) = numb 0 us)
    (h : AllR R sz (fun b => Pe b ∧ w.heap.size ≠ b) w xs us) (hsz : 0 < us.length * sz) (hsz2 : us.length * sz ≤ 16777216)
    (c : ∀ v w', OwnS R e sz (fun b => b = w.heap.size) Pe w' v xs → New w w' → w'.heap.size = w.heap.size + 1 → v.ownBlock = some w.heap.size → Wl P n ds Q ops rest (upd F d v) w') :
    Wl P n ds Q ops (⟨some d, .buildSlice t N ps.toArray, ty, pos, aft, none⟩ :: rest) F w := by
  subst hN
  obtain ⟨hl, hall⟩ := h.length
  have hr := run_buildSliceN (P := P) (w := w) ht.h he hall hsz hsz2
  have hn : New w (w.alloc (.cells (us.flatMap fun u => u.cells.toList).toArray e)) := Chg.alloc _ _ _
  refine Wl.val (w' := w.alloc (.cells (us.flatMap fun u => u.cells.toList).toArray e)) ?_ (c _ _ ⟨us.flatMap fun u => u.cells.toList, ⟨by rw [flat_len hall, hl], .inr ⟨w.heap.size, us.length, (us.flatMap fun u => u.cells.toList).toArray, by rw [hl], rfl, heap_alloc_new w _, by omega, ?_, by simpa using flat_len hall, ?_⟩⟩, fun i x hx => ?_⟩ hn (by simp) rfl)
  · simp only [execOp, List.map_toArray, hps, Sem.run_bind, hr, Result.andThen_ok, Sem.run_pure]
    rw [hl]
  · have : 0 < sz := by rcases Nat.eq_zero_or_pos sz with h0 | h0; rw [h0] at hsz; simp at hsz; exact h0
    have : us.length * 1 ≤ us.length * sz := Nat.mul_le_mul_left _ this
    unfold maxLen; omega
  · show List.take (xs.length * sz) (us.flatMap fun u => u.cells.toList) = _
    rw [← hl, ← flat_len hall, List.take_length]
  · have h1 := hR.st _ _ _ _ _ hn.keep (h.get hx)
    exact hR.mo _ _ _ _ _ (fun b _ hb => ⟨hb.1, fun e => hb.2 (by simpa [Value.ownBlock] using e)⟩) h1
end
end Go.Proofs.YtpnpllghabbhlaaGreatDoor.Wk

namespace Go.Proofs.YtpnpllghabbhlaaGreatDoor.Wk
open Go Go.RowKit

section
variable {P : Program} {n : Nat} {ds : List Deferred} {Q : Po} {F : Fr} {w : World} {ops rest : List Oper} {d : Nat} {ty : TypeId} {pos : String} {aft : Array Edge}
theorem run_idxArrP {t e m bytes b : Nat} {agg : Bool} {z : Value} {k : IntKind} {j : Int} (ht : P.underlying t = some (.array m e)) (he : ElT P e 1 bytes agg z) (h0 : 0 ≤ j) (h1 : j < m) :
    (Instr.indexAt t (.pointer (some ⟨b, 0, none⟩)) (.int k j)).run P w = .ok (.pointer (some ⟨b, j.toNat, none⟩)) w := by
  simp [Instr.indexAt, asIntOf, run_underlying ht, h0, h1, he.sizeOf, Instr.sureAddr, addr_add]
/-- h[j] of an array's variable: its place. -/
theorem Wl.idxArrP {x i : Operand} {t e m bytes b : Nat} {agg : Bool} {z : Value} {k : IntKind} {j : Int} [ht : Und P t (.array m e)] [he : ElT P e 1 bytes agg z] (hx : ev n F x = .pointer (some ⟨b, 0, none⟩)) (hi : ev n F i = .int k j) (h0 : 0 ≤ j) (h1 : j < m)
    (c : Wl P n ds Q ops rest (upd F d (.pointer (some ⟨b, j.toNat, none⟩))) w) : Wl P n ds Q ops (⟨some d, .indexAddr t x i, ty, pos, aft, none⟩ :: rest) F w :=
  Wl.val (by simp only [execOp, hx, hi, Sem.run_bind, run_idxArrP ht.h he h0 h1, Result.andThen_ok, Sem.run_pure]) c
/-- a[i:] of an array's variable. -/
theorem Wl.sliceArr {x i : Operand} {t e m bytes b : Nat} {agg : Bool} {z : Value} {k : IntKind} {j : Nat} [ht : Und P t (.array m e)] [he : ElT P e 1 bytes agg z] (hx : ev n F x = .pointer (some ⟨b, 0, none⟩)) (hi : ev n F i = .int k j) (h1 : j < m)
    (c : Wl P n ds Q ops rest (upd F d (.slice (some ⟨b, j, none⟩) (m - j) (m - j))) w) : Wl P n ds Q ops (⟨some d, .slice t x (some i) none none, ty, pos, aft, none⟩ :: rest) F w := by
  refine Wl.val ?_ c
  have hr : (Instr.sliceAt t (.pointer (some ⟨b, 0, none⟩)) (some (.int k j)) none none).run P w = .ok (.slice (some ⟨b, j, none⟩) (m - j) (m - j)) w := by
    have h2 : ¬ m = j := by omega
    have h3 : j ≤ m := by omega
    simp [Instr.sliceAt, run_underlying ht.h, Instr.sliceBounds, Instr.sliceBound, asIntOf, he.sizeOf, Instr.sureAddr, addr_add, h2, h3]
  simp only [execOp, hx, hi, Option.map_some, Option.map_none, Sem.run_bind, hr, Result.andThen_ok, Sem.run_pure]
theorem run_andM {k : IntKind} (hk : k.signed = false) (a m : Nat) (ha : a < 2 ^ k.bits) (hm : m ≤ k.bits) : Op.intBits .and k (a : Int) ((2 ^ m - 1 : Nat) : Int) = pure (.int k ((a % 2 ^ m : Nat) : Int)) := by
  have hp : 2 ^ m ≤ 2 ^ k.bits := Nat.pow_le_pow_right (by omega) hm
  have hp0 : 0 < 2 ^ m := Nat.pow_pos (by omega)
  have h1 : (BitVec.ofInt k.bits (a : Int) &&& BitVec.ofInt k.bits ((2 ^ m - 1 : Nat) : Int)).toNat = a % 2 ^ m := by
    rw [BitVec.toNat_and, BitVec.toNat_ofInt, BitVec.toNat_ofInt]
    have e1 : ((a : Int) % ((2 ^ k.bits : Nat) : Int)).toNat = a := by
      rw [Int.emod_eq_of_lt (by omega) (by omega)]; omega
    have e2 : (((2 ^ m - 1 : Nat) : Int) % ((2 ^ k.bits : Nat) : Int)).toNat = 2 ^ m - 1 := by
      rw [Int.emod_eq_of_lt (by omega) (by omega)]; omega
    rw [e1, e2, Nat.and_two_pow_sub_one_eq_mod]
  simp only [Op.intBits, h1]
  have h2 := Nat.mod_le a (2 ^ m)
  rw [wrap_u hk (by omega) (by have : ((a % 2 ^ m : Nat) : Int) < ((2 ^ k.bits : Nat) : Int) := by omega
                               simpa using this)]
/-- x & (2^m - 1). -/
theorem Wl.andM {x y : Operand} {t t' : TypeId} {k : IntKind} {A B : Int} (a m : Nat) (hk : k.signed = false) (hA : A = (a : Int)) (hB : B = ((2 ^ m - 1 : Nat) : Int)) (ha : a < 2 ^ k.bits) (hm : m ≤ k.bits) (hx : ev n F x = .int k A) (hy : ev n F y = .int k B)
    (c : Wl P n ds Q ops rest (upd F d (.int k ((a % 2 ^ m : Nat) : Int))) w) : Wl P n ds Q ops (⟨some d, .binOp .and t x y t', ty, pos, aft, none⟩ :: rest) F w := by
  subst hA
  subst hB
  refine Wl.val ?_ c
  simp only [execOp, hx, hy, Sem.run_bind, run_eqGuard_int, Result.andThen_ok]
  have : binOp .and t (.int k (a : Int)) (.int k ((2 ^ m - 1 : Nat) : Int)) = Op.intBits .and k (a : Int) ((2 ^ m - 1 : Nat) : Int) := by simp [binOp]
  rw [this, run_andM hk a m ha hm]; rfl
/-- x & y, both written out. -/
theorem Wl.andC {x y : Operand} {t t' : TypeId} {k : IntKind} {a b r : Int} (hr : Op.intBits .and k a b = pure (.int k r)) (hx : ev n F x = .int k a) (hy : ev n F y = .int k b)
    (c : Wl P n ds Q ops rest (upd F d (.int k r)) w) : Wl P n ds Q ops (⟨some d, .binOp .and t x y t', ty, pos, aft, none⟩ :: rest) F w := by
  refine Wl.val ?_ c
  simp only [execOp, hx, hy, Sem.run_bind, run_eqGuard_int, Result.andThen_ok]
  have : binOp .and t (.int k a) (.int k b) = Op.intBits .and k a b := by simp [binOp]
  rw [this, hr]; rfl
/-- x | y, both written out. -/
theorem Wl.orC {x y : Operand} {t t' : TypeId} {k : IntKind} {a b r : Int} (hr : Op.intBits .or k a b = pure (.int k r)) (hx : ev n F x = .int k a) (hy : ev n F y = .int k b)
    (c : Wl P n ds Q ops rest (upd F d (.int k r)) w) : Wl P n ds Q ops (⟨some d, .binOp .or t x y t', ty, pos, aft, none⟩ :: rest) F w := by
  refine Wl.val ?_ c
  simp only [execOp, hx, hy, Sem.run_bind, run_eqGuard_int, Result.andThen_ok]
  have : binOp .or t (.int k a) (.int k b) = Op.intBits .or k a b := by simp [binOp]
  rw [this, hr]; rfl
theorem Wl.negW {x : Operand} {t : TypeId} {k : IntKind} {a : Int} (hx : ev n F x = .int k a) (c : Wl P n ds Q ops rest (upd F d (.int k (k.wrap (-a)))) w) : Wl P n ds Q ops (⟨some d, .unOp .neg t x, ty, pos, aft, none⟩ :: rest) F w :=
  Wl.val (by simp [execOp, hx, Op.unary, Op.intArith]) c
end
end Go.Proofs.YtpnpllghabbhlaaGreatDoor.Wk

namespace Go.Proofs.YtpnpllghabbhlaaGreatDoor.Wk
open Go Go.RowKit

/-- A fact that the walk is not to look into. -/
structure Fact (p : Prop) : Prop where
  h : p
section
variable {P : Program} {n : Nat} {ds : List Deferred} {Q : Po} {C : World → Prop} {K : Fr → Prop} {F : Fr} {w w' : World} {ops rest : List Oper} {d : Nat} {ty : TypeId} {pos : String} {aft : Array Edge} {x lo hi i : Operand} {t : TypeId} {k k' : IntKind} {a b j : Int} {l : List UInt8}
theorem Wq.idxStr {c : UInt8} [ht : Und P t .string] (hx : ev n F x = vs l) (hi : ev n F i = .int k j) (h0 : 0 ≤ j) (hj : l[j.toNat]? = some c)
    (q : Wq P n ds C K ops rest (upd F d (.int .u8 c.toNat))) : Wq P n ds C K ops (⟨some d, .index t x i, ty, pos, aft, none⟩ :: rest) F :=
  Wq.val (fun w _ => by simp only [execOp, hx, hi, Sem.run_bind, run_idxStr ht.h h0 hj, Result.andThen_ok, Sem.run_pure]) q
theorem Wq.strBoth [ht : Und P t .string] (hx : ev n F x = vs l) (hl : ev n F lo = .int k a) (hh : ev n F hi = .int k' b) (h0 : 0 ≤ a) (h1 : a ≤ b) (h2 : b ≤ l.length)
    (c : Wq P n ds C K ops rest (upd F d (vs ((l.take b.toNat).drop a.toNat)))) : Wq P n ds C K ops (⟨some d, .slice t x (some lo) (some hi) none, ty, pos, aft, none⟩ :: rest) F := by
  obtain ⟨a, rfl⟩ := Int.eq_ofNat_of_zero_le h0
  obtain ⟨b, rfl⟩ := Int.eq_ofNat_of_zero_le (Int.le_trans h0 h1)
  refine Wq.val (fun w _ => ?_) c
  have := run_sliceStr (P := P) (w := w) (l := l) (lo := some (.int k a)) (hi := some (.int k' b)) (a := a) (b := b) ht.h (.inr ⟨k, rfl⟩) (.inr ⟨k', rfl⟩) (by omega) (by omega)
  simp only [execOp, hx, hl, hh, Option.map_some, Option.map_none, Sem.run_bind, this, Result.andThen_ok, Sem.run_pure, Int.toNat_natCast]
theorem Wl.buildG {ps : List (Nat × Operand)} {parts : List (Nat × Value)} {u : Value}
    (hps : ps.map (fun p => (p.1, ev n F p.2)) = parts) (hr : (Instr.build t parts.toArray).run P w = .ok u w) (c : Wl P n ds Q ops rest (upd F d u) w) : Wl P n ds Q ops (⟨some d, .build t ps.toArray, ty, pos, aft, none⟩ :: rest) F w := by
  refine Wl.val ?_ c
  subst hps
  simp only [execOp, List.map_toArray, Sem.run_bind]
  rw [hr]; rfl
end
section
variable {P : Program} {n : Nat} {ds : List Deferred} {Q : Po} {C : World → Prop} {K : Fr → Prop} {F : Fr} {w w' : World} {ops rest : List Oper} {d : Nat} {ty : TypeId} {pos : String} {aft : Array Edge} {x y : Operand} {t t' : TypeId} {k : IntKind} {A B : Int}
theorem Wq.andM (a m : Nat) (hk : k.signed = false) (hA : A = (a : Int)) (hB : B = ((2 ^ m - 1 : Nat) : Int)) (ha : a < 2 ^ k.bits) (hm : m ≤ k.bits) (hx : ev n F x = .int k A) (hy : ev n F y = .int k B)
    (c : Wq P n ds C K ops rest (upd F d (.int k ((a % 2 ^ m : Nat) : Int)))) : Wq P n ds C K ops (⟨some d, .binOp .and t x y t', ty, pos, aft, none⟩ :: rest) F := by
  subst hA
  subst hB
  refine Wq.val (fun w _ => ?_) c
  simp only [execOp, hx, hy, Sem.run_bind, run_eqGuard_int, Result.andThen_ok]
  have : binOp .and t (.int k (a : Int)) (.int k ((2 ^ m - 1 : Nat) : Int)) = Op.intBits .and k (a : Int) ((2 ^ m - 1 : Nat) : Int) := by simp [binOp]
  rw [this, run_andM hk a m ha hm]; rfl
end
theorem goodVs : GoodR (one vs) 1 := good_one _ fun _ => rfl
theorem w8 {k : Nat} (h : k < 256) : IntKind.u8.wrap (k : Int) = (k : Int) := wrap_u rfl (by omega) (by show (k : Int) < 2 ^ 8; omega)
theorem w32u {k : Nat} (h : k < 4294967296) : IntKind.u32.wrap (k : Int) = (k : Int) := wrap_u rfl (by omega) (by show (k : Int) < 2 ^ 32; omega)
/-- What was turned lay behind the beginning: it is new. -/
theorem Chg.toNew {M : Nat → Prop} {w w' : World} (c : Chg M w w') (h : ∀ k, k < w.heap.size → ¬ M k) : New w w' := c.mono fun k hk e => h k hk e
abbrev NoB : Nat → Prop := fun _ => False
end Go.Proofs.YtpnpllghabbhlaaGreatDoor.Wk

namespace Go.Proofs.YtpnpllghabbhlaaGreatDoor
open Go Wk
open Go.RowKit (Below)
attribute [local irreducible] Go.Calls

/-- Bounded as a rune's bits are. -/
structure RuneW (r : Nat) : Prop where
  h : r ≤ 2097151
theorem byteV {k : Nat} (h : k < 256) : Value.int .u8 (IntKind.u8.wrap ((k : Nat) : Int)) = by8 (UInt8.ofNat k) := by
  show Value.int .u8 _ = Value.int .u8 ((UInt8.ofNat k).toNat : Int)
  rw [UInt8.toNat_ofNat', Nat.mod_eq_of_lt h]
  rw [wrap_u rfl (by omega) (by show (k : Int) < 2 ^ 8; omega)]
theorem w32 {k : Nat} (h : k < 2147483648) : IntKind.i32.wrap (k : Int) = (k : Int) := by
  have h1 : (k : Int) % 2 ^ 32 = k := by omega
  simp only [IntKind.wrap, IntKind.bits, IntKind.signed, h1]
  rw [if_neg]
  simp only [Bool.true_and, decide_eq_true_eq]
  omega
theorem valQ {r a d : Nat} (hr : r ≤ 2097151) (hd : 0 < d) (h : a + r / d < 256) : Value.int .u8 (IntKind.u8.wrap (IntKind.i32.wrap ((a : Int) + IntKind.i32.wrap ((r : Int).tdiv (d : Int))))) = by8 (UInt8.ofNat (a + r / d)) := by
  have e : (r : Int).tdiv (d : Int) = ((r / d : Nat) : Int) := rfl
  have : r / d ≤ r := Nat.div_le_self _ _
  rw [e, w32 (by omega), ← Int.natCast_add, w32 (by omega), byteV h]
theorem valR {r : Nat} : Value.int .u8 (IntKind.u8.wrap (IntKind.i32.wrap (((128 : Nat) : Int) + (r : Int).tmod ((64 : Nat) : Int)))) = by8 (UInt8.ofNat (128 + r % 64)) := by
  have e : (r : Int).tmod ((64 : Nat) : Int) = ((r % 64 : Nat) : Int) := rfl
  rw [e, ← Int.natCast_add, w32 (by omega), byteV (by omega)]
theorem valQR {r d : Nat} (hr : r ≤ 2097151) (hd : 0 < d) : Value.int .u8 (IntKind.u8.wrap (IntKind.i32.wrap (((128 : Nat) : Int) + (IntKind.i32.wrap ((r : Int).tdiv (d : Int))).tmod ((64 : Nat) : Int)))) = by8 (UInt8.ofNat (128 + r / d % 64)) := by
  have e : (r : Int).tdiv (d : Int) = ((r / d : Nat) : Int) := rfl
  have : r / d ≤ r := Nat.div_le_self _ _
  rw [e, w32 (by omega), valR]
theorem l2 {a b a' b' : Value} (h1 : a = a') (h2 : b = b') : [(0, a), (1, b)] = [(0, a'), (1, b')] := by rw [h1, h2]
theorem l3 {a b c a' b' c' : Value} (h1 : a = a') (h2 : b = b') (h3 : c = c') : [(0, a), (1, b), (2, c)] = [(0, a'), (1, b'), (2, c')] := by rw [h1, h2, h3]
theorem l4 {a b c d a' b' c' d' : Value} (h1 : a = a') (h2 : b = b') (h3 : c = c') (h4 : d = d') : [(0, a), (1, b), (2, c), (3, d)] = [(0, a'), (1, b'), (2, c'), (3, d')] := by rw [h1, h2, h3, h4]
set_option maxRecDepth 4000 in
theorem Coded_spec {w : World} {r : Nat} (hr : RuneW r) : Calls Tryz.prog 95 #[.int .i32 r] w (Ret fun v w' => v = vs (codedW r) ∧ New w w') := by
  refine calls_of_Wc Tryz.func95 rfl Tryz.ntmps95 rfl ?_
  (repeat' (first | refine Wl.moveE (by conv => { lhs; whnf }) ?_ | refine Wl.assignE (by conv => { lhs; whnf }) ?_ | refine Wl.nil ?_ | refine Qseq.normal ?_ | refine Wc.seq ?_ | refine Wc.region ?_ | refine Wc.block ?_))
  refine Wl.lss rfl rfl (fun h1 => ?_) (fun h1 => ?_)
  · replace h1 : r < 128 := by omega
    (repeat' (first | refine Wl.moveE (by conv => { lhs; whnf }) ?_ | refine Wl.assignE (by conv => { lhs; whnf }) ?_ | refine Wl.nil ?_ | refine Qseq.normal ?_ | refine Wc.seq ?_ | refine Wc.region ?_ | refine Wc.condT rfl ?_ | refine Wl.convI rfl ?_))
    refine Wl.buildSliceN (R := one by8) (N := 1) (ps := [(0, .tmp 7)]) (xs := codedW r) (us := (codedW r).map by8) (Pe := fun _ => False) goodR8 (by unfold codedW codedN; rw [if_pos h1]; rfl) (by unfold codedW codedN; rw [if_pos h1]; exact congrArg (fun x => [(0, x)]) (byteV (by omega))) (by unfold codedW codedN; rw [if_pos h1]; exact ⟨rfl, rfl, trivial⟩) (by unfold codedW codedN; rw [if_pos h1]; simp) (by unfold codedW codedN; rw [if_pos h1]; simp) fun v1 w1 o1 n1 s1 ob1 => ?_
    refine Wl.bytesStr (o1.rd goodR8.mo) rfl ?_
    (repeat' (first | refine Wl.assignE (by conv => { lhs; whnf }) ?_ | refine Wl.nil ?_ | refine Qseq.normal ?_ | refine Wc.ret ?_ | refine Qseq.ret ?_ | refine Qblk.ret ?_))
    exact Qfn.ret1 rfl rfl ⟨_, rfl, rfl, n1⟩
  · replace h1 := Fact.mk h1
    (repeat' (first | refine Wl.moveE (by conv => { lhs; whnf }) ?_ | refine Wl.assignE (by conv => { lhs; whnf }) ?_ | refine Wl.nil ?_ | refine Qseq.normal ?_ | refine Wc.seq ?_ | refine Wc.region ?_ | refine Wc.condF rfl ?_))
    refine Wl.lss rfl rfl (fun h2 => ?_) (fun h2 => ?_)
    · have n1' : ¬ r < 128 := by have := h1.h; omega
      have p2' : r < 2048 := by omega
      clear h2
      (repeat' (first | refine Wl.moveE (by conv => { lhs; whnf }) ?_ | refine Wl.assignE (by conv => { lhs; whnf }) ?_ | refine Wl.nil ?_ | refine Qseq.normal ?_ | refine Wc.seq ?_ | refine Wc.region ?_ | refine Wc.condT rfl ?_))
      refine Wl.quoW rfl rfl (by decide) ?_
      skip
      refine Wl.addW rfl rfl ?_
      (repeat' (first | refine Wl.moveE (by conv => { lhs; whnf }) ?_ | refine Wl.convI rfl ?_))
      refine Wl.remW rfl rfl (by decide) ?_
      skip
      refine Wl.addW rfl rfl ?_
      (repeat' (refine Wl.convI rfl ?_))
      refine Wl.buildSliceN (R := one by8) (N := 2) (ps := [(0, .tmp 16), (1, .tmp 20)]) (xs := codedW r) (us := (codedW r).map by8) (Pe := fun _ => False) goodR8 (by unfold codedW codedN; rw [if_neg n1', if_pos p2']; rfl) (by unfold codedW codedN; rw [if_neg n1', if_pos p2']; exact l2 (valQ (a := 192) (d := 64) hr.h (by decide) (by omega)) valR) (by unfold codedW codedN; rw [if_neg n1', if_pos p2']; exact ⟨rfl, rfl, rfl, rfl, trivial⟩) (by unfold codedW codedN; rw [if_neg n1', if_pos p2']; simp) (by unfold codedW codedN; rw [if_neg n1', if_pos p2']; simp) fun v1 w1 o1 n1 s1 ob1 => ?_
      refine Wl.bytesStr (o1.rd goodR8.mo) rfl ?_
      (repeat' (first | refine Wl.assignE (by conv => { lhs; whnf }) ?_ | refine Wl.nil ?_ | refine Qseq.normal ?_ | refine Wc.ret ?_ | refine Qseq.ret ?_ | refine Qblk.ret ?_))
      exact Qfn.ret1 rfl rfl ⟨_, rfl, rfl, n1⟩
    · replace h2 := Fact.mk h2
      (repeat' (first | refine Wl.moveE (by conv => { lhs; whnf }) ?_ | refine Wl.assignE (by conv => { lhs; whnf }) ?_ | refine Wl.nil ?_ | refine Qseq.normal ?_ | refine Wc.seq ?_ | refine Wc.region ?_ | refine Wc.condF rfl ?_))
      refine Wl.lss rfl rfl (fun h3 => ?_) (fun h3 => ?_)
      · have n1' : ¬ r < 128 := by have := h1.h; omega
        have n2' : ¬ r < 2048 := by have := h2.h; omega
        have p3' : r < 65536 := by omega
        clear h3
        (repeat' (first | refine Wl.moveE (by conv => { lhs; whnf }) ?_ | refine Wl.assignE (by conv => { lhs; whnf }) ?_ | refine Wl.nil ?_ | refine Qseq.normal ?_ | refine Wc.seq ?_ | refine Wc.region ?_ | refine Wc.condT rfl ?_))
        refine Wl.quoW rfl rfl (by decide) ?_
        skip
        refine Wl.addW rfl rfl ?_
        (repeat' (first | refine Wl.moveE (by conv => { lhs; whnf }) ?_ | refine Wl.convI rfl ?_))
        refine Wl.quoW rfl rfl (by decide) ?_
        skip
        refine Wl.remW rfl rfl (by decide) ?_
        skip
        refine Wl.addW rfl rfl ?_
        (repeat' (first | refine Wl.moveE (by conv => { lhs; whnf }) ?_ | refine Wl.convI rfl ?_))
        refine Wl.remW rfl rfl (by decide) ?_
        skip
        refine Wl.addW rfl rfl ?_
        (repeat' (refine Wl.convI rfl ?_))
        refine Wl.buildSliceN (R := one by8) (N := 3) (ps := [(0, .tmp 29), (1, .tmp 34), (2, .tmp 38)]) (xs := codedW r) (us := (codedW r).map by8) (Pe := fun _ => False) goodR8 (by unfold codedW codedN; rw [if_neg n1', if_neg n2', if_pos p3']; rfl) (by unfold codedW codedN; rw [if_neg n1', if_neg n2', if_pos p3']; exact l3 (valQ (a := 224) (d := 4096) hr.h (by decide) (by omega)) (valQR (d := 64) hr.h (by decide)) valR) (by unfold codedW codedN; rw [if_neg n1', if_neg n2', if_pos p3']; exact ⟨rfl, rfl, rfl, rfl, rfl, rfl, trivial⟩) (by unfold codedW codedN; rw [if_neg n1', if_neg n2', if_pos p3']; simp) (by unfold codedW codedN; rw [if_neg n1', if_neg n2', if_pos p3']; simp) fun v1 w1 o1 n1 s1 ob1 => ?_
        refine Wl.bytesStr (o1.rd goodR8.mo) rfl ?_
        (repeat' (first | refine Wl.assignE (by conv => { lhs; whnf }) ?_ | refine Wl.nil ?_ | refine Qseq.normal ?_ | refine Wc.ret ?_ | refine Qseq.ret ?_ | refine Qblk.ret ?_))
        exact Qfn.ret1 rfl rfl ⟨_, rfl, rfl, n1⟩
      · have n1' : ¬ r < 128 := by have := h1.h; omega
        have n2' : ¬ r < 2048 := by have := h2.h; omega
        have n3' : ¬ r < 65536 := by omega
        clear h3
        (repeat' (first | refine Wl.moveE (by conv => { lhs; whnf }) ?_ | refine Wl.assignE (by conv => { lhs; whnf }) ?_ | refine Wl.nil ?_ | refine Qseq.normal ?_ | refine Wc.seq ?_ | refine Wc.region ?_ | refine Wc.skip ?_ | refine Qblk.normal ?_ | refine Wc.condF rfl ?_))
        refine Wl.quoW rfl rfl (by decide) ?_
        skip
        refine Wl.addW rfl rfl ?_
        (repeat' (first | refine Wl.moveE (by conv => { lhs; whnf }) ?_ | refine Wl.convI rfl ?_))
        refine Wl.quoW rfl rfl (by decide) ?_
        skip
        refine Wl.remW rfl rfl (by decide) ?_
        skip
        refine Wl.addW rfl rfl ?_
        (repeat' (first | refine Wl.moveE (by conv => { lhs; whnf }) ?_ | refine Wl.convI rfl ?_))
        refine Wl.quoW rfl rfl (by decide) ?_
        skip
        refine Wl.remW rfl rfl (by decide) ?_
        skip
        refine Wl.addW rfl rfl ?_
        (repeat' (first | refine Wl.moveE (by conv => { lhs; whnf }) ?_ | refine Wl.convI rfl ?_))
        refine Wl.remW rfl rfl (by decide) ?_
        skip
        refine Wl.addW rfl rfl ?_
        (repeat' (refine Wl.convI rfl ?_))
        refine Wl.buildSliceN (R := one by8) (N := 4) (ps := [(0, .tmp 44), (1, .tmp 49), (2, .tmp 54), (3, .tmp 58)]) (xs := codedW r) (us := (codedW r).map by8) (Pe := fun _ => False) goodR8 (by unfold codedW codedN; rw [if_neg n1', if_neg n2', if_neg n3']; rfl) (by unfold codedW codedN; rw [if_neg n1', if_neg n2', if_neg n3']; exact l4 (valQ (a := 240) (d := 262144) hr.h (by decide) (by have := hr.h; omega)) (valQR (d := 4096) hr.h (by decide)) (valQR (d := 64) hr.h (by decide)) valR) (by unfold codedW codedN; rw [if_neg n1', if_neg n2', if_neg n3']; exact ⟨rfl, rfl, rfl, rfl, rfl, rfl, rfl, rfl, trivial⟩) (by unfold codedW codedN; rw [if_neg n1', if_neg n2', if_neg n3']; simp) (by unfold codedW codedN; rw [if_neg n1', if_neg n2', if_neg n3']; simp) fun v1 w1 o1 n1 s1 ob1 => ?_
        refine Wl.bytesStr (o1.rd goodR8.mo) rfl ?_
        (repeat' (first | refine Wl.assignE (by conv => { lhs; whnf }) ?_ | refine Wl.nil ?_ | refine Qseq.normal ?_ | refine Wc.ret ?_))
        exact Qfn.ret1 rfl rfl ⟨_, rfl, rfl, n1⟩
end Go.Proofs.YtpnpllghabbhlaaGreatDoor

namespace Go.Proofs.YtpnpllghabbhlaaGreatDoor
open Go Wk
open Go.RowKit (Below)
attribute [local irreducible] Go.Calls

theorem flat_le {l : List (List UInt8)} (i : Nat) : (l.take i).flatten.length ≤ l.flatten.length := by
  have h : l.flatten = (l.take i).flatten ++ (l.drop i).flatten := by rw [← List.flatten_append, List.take_append_drop]
  rw [h, List.length_append]; omega
theorem flat_next {l : List (List UInt8)} {i : Nat} {s : List UInt8} (h : l[i]? = some s) : (l.take (i + 1)).flatten = (l.take i).flatten ++ s := by
  rw [List.take_add_one, h, List.flatten_append]; simp
theorem joined_spec {Pb : Nat → Prop} {w : World} {v : Value} {l : List (List UInt8)} (h : RdS (one vs) 1 Pb w v l) (hl : l.flatten.length ≤ 400000000) :
    Calls Tryz.prog 47 #[v] w (Ret fun r w' => r = vs l.flatten ∧ New w w') := by
  obtain ⟨a, cp, rfl, hc1, hc2⟩ := h.form
  simp only [maxLen] at hc2
  replace h := h.mono (Pb' := fun k => k < w.heap.size) (mono_one _) fun k hk _ => hk
  refine calls_of_Wc Tryz.func47 rfl Tryz.ntmps47 rfl ?_
  (repeat' (first | refine Wl.assignE (by conv => { lhs; whnf }) ?_ | refine Wl.nil ?_ | refine Qseq.normal ?_ | refine Wc.seq ?_ | refine Wc.region ?_ | refine Wc.block ?_))
  refine Wc.loop (σ := Nat × Value) (fun s => [(0, .slice a l.length cp), (3, s.2), (4, vi s.1)]) (fun s W => s.1 ≤ l.length ∧ OwnS (one by8) 5 1 (fun k => w.heap.size ≤ k) (fun _ => False) W s.2 (l.take s.1).flatten ∧ New w W) (fun s => l.length - s.1) (0, .slice none 0 0) ⟨rfl, rfl, rfl, trivial⟩ ⟨Nat.zero_le _, OwnS.nil, Chg.refl _ _⟩ ?_
  rintro ⟨i, b⟩ G W ⟨hi, o, n⟩
  dsimp only at hi o
  simp only [upds]
  (repeat' (first | refine Wl.moveE (by conv => { lhs; whnf }) ?_ | refine Wl.nil ?_ | refine Wl.lenS rfl ?_ | refine Qseq.normal ?_ | refine Wc.seq ?_ | refine Wc.region ?_ | refine Wc.block ?_ | refine Wc.skip ?_ | refine Wc.exit ?_ | refine Qseq.exit ?_ | refine Qblk.hit ?_ | refine Qloop.exit ?_ | refine Wc.condT rfl ?_ | refine Wc.condF rfl ?_ | refine Wl.lss rfl rfl (fun _ => ?_) (fun _ => ?_)))
  · obtain ⟨s, hs⟩ : ∃ s, l[i]? = some s := ⟨_, List.getElem?_eq_getElem (by omega)⟩
    have hle := flat_le (l := l) (i + 1)
    rw [flat_next hs, List.length_append] at hle
    refine Wl.idxAddr (h.keep (stable_one _) n.keep) rfl rfl (by omega) (by rw [Int.toNat_natCast]; exact hs) fun bb off cs hcl hR hat => ?_
    obtain rfl : cs = [vs s] := hR
    refine Wl.load1 (u := vs s) rfl (hat.get 0 rfl) ?_
    refine Wl.appendStr o rfl rfl (by simp only [maxLen]; omega) (by omega) fun b' W' o' c' lie => ?_
    rw [← flat_next hs] at o'
    have hb : ∀ k, b.ownBlock = some k → w.heap.size ≤ k := fun k hk => (o.lt hk).1
    have zn := n.size
    (repeat' (first | refine Wl.moveE (by conv => { lhs; whnf }) ?_ | refine Wl.assignE (by conv => { lhs; whnf }) ?_ | refine Wl.nil ?_ | refine Qseq.normal ?_ | refine Wc.region ?_ | refine Qblk.normal ?_ | refine Wl.add rfl rfl (by omega) (by omega) ?_))
    exact Qloop.normal (i + 1, b') ⟨rfl, rfl, rfl, trivial⟩ ⟨by dsimp only; omega, o'.mono goodR8.mo (fun k _ e => by rcases e with e | e <;> omega) (fun _ _ e => e), Chg.trans n c' fun k hk e => by have := hb k e; omega⟩ (by dsimp only; omega)
  · have e : i = l.length := by omega
    subst e
    rw [List.take_length] at o
    refine Wl.bytesStr (o.rd goodR8.mo) rfl ?_
    (repeat' (first | refine Wl.assignE (by conv => { lhs; whnf }) ?_ | refine Wl.nil ?_ | refine Qseq.normal ?_ | refine Wc.ret ?_))
    exact Qfn.ret1 rfl rfl ⟨_, rfl, rfl, n⟩
end Go.Proofs.YtpnpllghabbhlaaGreatDoor

namespace Go.Proofs.YtpnpllghabbhlaaGreatDoor
open Go Wk
open Go.RowKit (Below)
attribute [local irreducible] Go.Calls

/-- What the first bytes say, byte by byte. -/
def foldB (s : List UInt8) (n : Nat) : Nat → Nat
  | 0 => 0
  | 1 => if n = 1 then gB s 0 else if n = 2 then gB s 0 % 32 else if n = 3 then gB s 0 % 16 else gB s 0 % 8
  | j + 2 => 64 * foldB s n (j + 1) + gB s (j + 1) % 64
theorem foldB_lt (s : List UInt8) (n : Nat) : ∀ j, j ≤ 4 → 1 ≤ n → n ≤ 4 → j ≤ n → foldB s n j ≤ 2097151 := by
  intro j hj h1 h4 hn
  have g := gB_lt s 0
  rcases n with _ | _ | _ | _ | _ | n <;> rcases j with _ | _ | _ | _ | _ | j <;> simp [foldB] <;> omega
theorem foldB_say (s : List UInt8) {n : Nat} (h1 : 1 ≤ n) (h4 : n ≤ 4) : foldB s n n = sayN s n := by
  rcases n with _ | _ | _ | _ | _ | n
  · omega
  · rfl
  · rfl
  · rfl
  · rfl
  · omega
theorem begins_of {s : List UInt8} {n : Nat} (h1 : 1 ≤ n) (h4 : n ≤ 4) (hn : ∀ m, 1 ≤ m → m < n → ¬ sayOk s m) (h : sayOk s n) : beginsM s = (sayN s n, n) := by
  unfold beginsM
  rcases n with _ | _ | _ | _ | _ | n
  · omega
  · rw [if_pos h]
  · rw [if_neg (hn 1 (by omega) (by omega)), if_pos h]
  · rw [if_neg (hn 1 (by omega) (by omega)), if_neg (hn 2 (by omega) (by omega)), if_pos h]
  · rw [if_neg (hn 1 (by omega) (by omega)), if_neg (hn 2 (by omega) (by omega)), if_neg (hn 3 (by omega) (by omega)), if_pos h]
  · omega
theorem begins_no {s : List UInt8} (hn : ∀ m, 1 ≤ m → m ≤ 4 → ¬ sayOk s m) : beginsM s = (0, 0) := by
  unfold beginsM
  rw [if_neg (hn 1 (by omega) (by omega)), if_neg (hn 2 (by omega) (by omega)), if_neg (hn 3 (by omega) (by omega)), if_neg (hn 4 (by omega) (by omega))]
theorem begins_spec {w : World} {s : List UInt8} (hl : s.length ≤ 4) :
    Calls Tryz.prog 82 #[vs s] w (Ret fun r w' => r = .tuple #[.int .i32 ((beginsM s).1 : Nat), vi ((beginsM s).2 : Nat)] ∧ New w w') := by
  refine calls_of_Wc Tryz.func82 rfl Tryz.ntmps82 rfl ?_
  (repeat' (first | refine Wl.assignE (by conv => { lhs; whnf }) ?_ | refine Wl.nil ?_ | refine Qseq.normal ?_ | refine Wc.seq ?_ | refine Wc.region ?_ | refine Wc.block ?_))
  refine Wc.loop (σ := Nat) (fun n => [(0, vs s), (4, vi n)]) (fun n W => 1 ≤ n ∧ n ≤ 5 ∧ (∀ m, 1 ≤ m → m < n → ¬ sayOk s m) ∧ New w W) (fun n => 5 - n) 1 ⟨rfl, rfl, trivial⟩ ⟨by omega, by omega, fun m h1 h2 => by omega, Chg.refl _ _⟩ ?_
  rintro n G W ⟨h1, h5, hno, nW⟩
  simp only [upds]
  (repeat' (first | refine Wl.moveE (by conv => { lhs; whnf }) ?_ | refine Wl.assignE (by conv => { lhs; whnf }) ?_ | refine Wl.nil ?_ | refine Wl.guardY rfl rfl ?_ | refine Wl.guardN rfl rfl ?_ | refine Wl.pickTE rfl (by conv => { lhs; whnf }) ?_ | refine Wl.pickFE rfl (by conv => { lhs; whnf }) ?_ | refine Wl.lenStr rfl ?_ | refine Qseq.normal ?_ | refine Wc.seq ?_ | refine Wc.region ?_ | refine Wc.block ?_ | refine Wc.skip ?_ | refine Wc.exit ?_ | refine Wc.ret ?_ | refine Qseq.exit ?_ | refine Qblk.hit ?_ | refine Qloop.exit ?_ | refine Wc.condT rfl ?_ | refine Wc.condF rfl ?_ | refine Wl.leq rfl rfl (fun _ => ?_) (fun _ => ?_)))
  · obtain ⟨c, hc⟩ := get_byte s (k := 0) (by omega)
    have hg := gB_get hc
    have hc8 := c.toNat_lt
    have hf0 : foldB s n 1 = if n = 1 then gB s 0 else if n = 2 then gB s 0 % 32 else if n = 3 then gB s 0 % 16 else gB s 0 % 8 := rfl
    refine Wl.idxStr (j := 0) rfl rfl (by omega) hc ?_
    skip
    refine Wl.convI rfl ?_
    rw [w32 (by omega), ← hg]
    clear hc8
    (repeat' (first | refine Wl.assignE (by conv => { lhs; whnf }) ?_ | refine Wl.nil ?_ | refine Qseq.normal ?_))
    refine Wc.cutR (fun F W' => agrees F [(0, vs s), (4, vi n), (5, .int .i32 (foldB s n 1 : Nat))] ∧ W = W') ?_ ?_
    · (repeat' (first | refine Wl.moveE (by conv => { lhs; whnf }) ?_ | refine Wl.assignE (by conv => { lhs; whnf }) ?_ | refine Wl.nil ?_ | refine Qseq.normal ?_ | refine Wc.seq ?_ | refine Wc.region ?_ | refine Wc.block ?_ | refine Wc.skip ?_ | refine Qblk.normal ?_ | refine Wc.condT rfl ?_ | refine Wc.condF rfl ?_ | refine Wl.eql rfl rfl (fun _ => ?_) (fun _ => ?_)))
      · refine Wl.remW rfl rfl (by decide) ?_
        rw [show ((gB s 0 : Nat) : Int).tmod 32 = ((gB s 0 % 32 : Nat) : Int) from rfl]
        (repeat' (first | refine Wl.assignE (by conv => { lhs; whnf }) ?_ | refine Wl.nil ?_ | refine Qblk.normal ?_))
        refine Qm.normal ⟨⟨rfl, rfl, ?_, trivial⟩, rfl⟩
        rw [hf0, if_neg (by omega), if_pos (by omega)]; rfl
      · refine Wl.remW rfl rfl (by decide) ?_
        rw [show ((gB s 0 : Nat) : Int).tmod 16 = ((gB s 0 % 16 : Nat) : Int) from rfl]
        (repeat' (first | refine Wl.assignE (by conv => { lhs; whnf }) ?_ | refine Wl.nil ?_ | refine Qblk.normal ?_))
        refine Qm.normal ⟨⟨rfl, rfl, ?_, trivial⟩, rfl⟩
        rw [hf0, if_neg (by omega), if_neg (by omega), if_pos (by omega)]; rfl
      · refine Wl.remW rfl rfl (by decide) ?_
        rw [show ((gB s 0 : Nat) : Int).tmod 8 = ((gB s 0 % 8 : Nat) : Int) from rfl]
        (repeat' (first | refine Wl.assignE (by conv => { lhs; whnf }) ?_ | refine Wl.nil ?_ | refine Qblk.normal ?_))
        refine Qm.normal ⟨⟨rfl, rfl, ?_, trivial⟩, rfl⟩
        rw [hf0, if_neg (by omega), if_neg (by omega), if_neg (by omega)]; rfl
      · refine Qm.normal ⟨⟨rfl, rfl, ?_, trivial⟩, rfl⟩
        rw [hf0, if_pos (by omega)]; rfl
    rintro F _ ⟨ag, rfl⟩
    refine Wc.frame _ ag fun G1 => ?_
    clear hf0 ag
    simp only [upds]
    (repeat' (first | refine Wl.assignE (by conv => { lhs; whnf }) ?_ | refine Wl.nil ?_ | refine Qseq.normal ?_ | refine Wc.seq ?_ | refine Wc.region ?_ | refine Wc.block ?_))
    refine Wc.loop (σ := Nat) (fun i => [(0, vs s), (4, vi n), (5, .int .i32 (foldB s n i : Nat)), (6, vi i)]) (fun i W' => 1 ≤ i ∧ i ≤ n ∧ W = W') (fun i => n - i) 1 ⟨rfl, rfl, rfl, rfl, trivial⟩ ⟨Nat.le_refl _, h1, rfl⟩ ?_
    rintro i G1 _ ⟨hi1, hi2, rfl⟩
    simp only [upds]
    (repeat' (first | refine Wl.moveE (by conv => { lhs; whnf }) ?_ | refine Wl.nil ?_ | refine Qseq.normal ?_ | refine Wc.seq ?_ | refine Wc.region ?_ | refine Wc.block ?_ | refine Wc.skip ?_ | refine Wc.exit ?_ | refine Qseq.exit ?_ | refine Qblk.hit ?_ | refine Qloop.exit ?_ | refine Wc.condT rfl ?_ | refine Wc.condF rfl ?_ | refine Wl.lss rfl rfl (fun _ => ?_) (fun _ => ?_)))
    · obtain ⟨c2, hc2⟩ := get_byte s (k := i) (by omega)
      have hf := foldB_lt s n (i + 1) (by omega) h1 (by omega) (by omega)
      have hf0 := foldB_lt s n i (by omega) h1 (by omega) (by omega)
      have hg2 := gB_get hc2
      have hb2 := gB_lt s i
      have hs : foldB s n (i + 1) = 64 * foldB s n i + gB s i % 64 := by
        obtain ⟨j, rfl⟩ : ∃ j, i = j + 1 := ⟨i - 1, by omega⟩
        rfl
      refine Wl.mulW rfl rfl ?_
      rw [show (64 : Int) * ((foldB s n i : Nat) : Int) = ((64 * foldB s n i : Nat) : Int) by omega, w32 (by omega)]
      replace hf := Fact.mk hf
      replace hf0 := Fact.mk hf0
      (repeat' (refine Wl.moveE (by conv => { lhs; whnf }) ?_))
      refine Wl.idxStr rfl rfl (by omega) (by rw [Int.toNat_natCast]; exact hc2) ?_
      skip
      refine Wl.convI rfl ?_
      rw [w32 (by omega), ← hg2]
      skip
      refine Wl.remW rfl rfl (by decide) ?_
      skip
      refine Wl.addW rfl rfl ?_
      rw [show ((64 * foldB s n i : Nat) : Int) + ((gB s i : Nat) : Int).tmod 64 = ((foldB s n (i + 1) : Nat) : Int) by rw [hs, show ((gB s i : Nat) : Int).tmod 64 = ((gB s i % 64 : Nat) : Int) from rfl]; omega, w32 (by have := hf.h; omega)]
      (repeat' (first | refine Wl.moveE (by conv => { lhs; whnf }) ?_ | refine Wl.assignE (by conv => { lhs; whnf }) ?_ | refine Wl.nil ?_ | refine Qseq.normal ?_ | refine Wc.region ?_ | refine Qblk.normal ?_ | refine Wl.add rfl rfl (by omega) (by omega) ?_))
      exact Qloop.normal (i + 1) ⟨rfl, rfl, rfl, rfl, trivial⟩ ⟨by omega, by omega, rfl⟩ (by omega)
    · obtain rfl : i = n := by omega
      have hr : RuneW (sayN s i) := ⟨by rw [← foldB_say s hi1 (by omega)]; exact foldB_lt s i i (by omega) hi1 (by omega) (Nat.le_refl _)⟩
      rw [foldB_say s hi1 (by omega)]
      have hso : sayOk s i ↔ (sayN s i ≤ 1114111 ∧ (sayN s i < 55296 ∨ 57343 < sayN s i) ∧ codedW (sayN s i) = s.take i) := ⟨fun e => e.2, fun e => ⟨by omega, e⟩⟩
      refine Wc.regionT rfl (by kernel_rfl) (fun w' => New W w') (Chg.drew _ _) ?_
      intro w3 n3
      have step : (¬ (sayN s i ≤ 1114111 ∧ (sayN s i < 55296 ∨ 57343 < sayN s i) ∧ codedW (sayN s i) = s.take i)) → ∀ m, 1 ≤ m → m < i + 1 → ¬ sayOk s m := fun e m hm1 hm2 => by
        rcases Nat.lt_or_ge m i with h | h
        · exact hno m hm1 h
        · obtain rfl : m = i := by omega
          exact fun e' => e (hso.1 e')
      (repeat' (refine Wt.quiet rfl (Wq.moveE (by conv => { lhs; whnf }) (Wq.nil ?_))))
      refine Wt.quiet rfl (Wq.leq rfl rfl (fun a1 => Wq.nil ?_) (fun a1 => Wq.nil ?_)) <;> replace a1 := Fact.mk a1
      · (repeat' (first | refine Wt.guardY rfl rfl ?_ | refine Wt.quiet rfl (Wq.moveE (by conv => { lhs; whnf }) (Wq.nil ?_))))
        refine Wt.quiet rfl (Wq.lss rfl rfl (fun a2 => Wq.nil ?_) (fun a2 => Wq.nil ?_)) <;> replace a2 := Fact.mk a2
        · (repeat' (first | refine Wt.guardY rfl rfl ?_ | refine Wt.guardN rfl rfl (by assumption) ?_ | refine Wt.quiet rfl (Wq.moveE (by conv => { lhs; whnf }) (Wq.nil ?_)) | refine Wt.quiet rfl (Wq.pickTE rfl (by conv => { lhs; whnf }) (Wq.nil ?_))))
          refine Wt.chain rfl (Wl.call (Coded_spec hr) rfl ?_)
          rintro _ w4 ⟨rfl, n4⟩
          refine Wl.nil ⟨rfl, New.trans n3 n4, ?_⟩
          (repeat' (first | refine Wt.guardY rfl rfl ?_ | refine Wt.quiet rfl (Wq.moveE (by conv => { lhs; whnf }) (Wq.nil ?_))))
          refine Wt.quiet rfl (Wq.strTo rfl rfl (by omega) (by omega) (Wq.nil ?_))
          rw [Int.toNat_natCast]
          (repeat' (refine Wt.guardY rfl rfl ?_))
          refine Wt.quiet rfl (Wq.seql rfl rfl (fun a4 => Wq.nil ?_) (fun a4 => Wq.nil ?_))
          · (repeat' (first | refine Wt.nil ?_ | refine Wt.quiet rfl (Wq.pickTE rfl (by conv => { lhs; whnf }) (Wq.nil ?_))))
            (repeat' (first | refine Wl.moveE (by conv => { lhs; whnf }) ?_ | refine Wl.assignE (by conv => { lhs; whnf }) ?_ | refine Wl.nil ?_ | refine Qseq.normal ?_ | refine Wc.seq ?_ | refine Wc.region ?_ | refine Wc.ret ?_ | refine Qseq.ret ?_ | refine Qblk.ret ?_ | refine Qloop.ret ?_ | refine Wc.condT rfl ?_))
            refine Qfn.ret2 rfl rfl rfl ⟨_, rfl, ?_, New.trans nW (New.trans n3 n4)⟩
            rw [begins_of hi1 (by omega) hno (hso.2 ⟨by have := a1.h; omega, by have := a2.h; omega, a4⟩)]
            rfl
          · (repeat' (first | refine Wt.nil ?_ | refine Wt.quiet rfl (Wq.pickTE rfl (by conv => { lhs; whnf }) (Wq.nil ?_))))
            (repeat' (first | refine Wl.moveE (by conv => { lhs; whnf }) ?_ | refine Wl.assignE (by conv => { lhs; whnf }) ?_ | refine Wl.nil ?_ | refine Qseq.normal ?_ | refine Wc.region ?_ | refine Wc.skip ?_ | refine Qblk.normal ?_ | refine Wc.condF rfl ?_ | refine Wl.add rfl rfl (by omega) (by omega) ?_))
            exact Qloop.normal (i + 1) ⟨rfl, rfl, trivial⟩ ⟨by omega, by omega, step fun e => a4 e.2.2, New.trans nW (New.trans n3 n4)⟩ (by omega)
        · (repeat' (first | refine Wt.guardY rfl rfl ?_ | refine Wt.quiet rfl (Wq.moveE (by conv => { lhs; whnf }) (Wq.nil ?_))))
          refine Wt.quiet rfl (Wq.gtr rfl rfl (fun a3 => Wq.nil ?_) (fun a3 => Wq.nil ?_)) <;> replace a3 := Fact.mk a3
          · (repeat' (first | refine Wt.guardY rfl rfl ?_ | refine Wt.quiet rfl (Wq.moveE (by conv => { lhs; whnf }) (Wq.nil ?_)) | refine Wt.quiet rfl (Wq.pickTE rfl (by conv => { lhs; whnf }) (Wq.nil ?_)) | refine Wt.quiet rfl (Wq.pickFE rfl (by conv => { lhs; whnf }) (Wq.nil ?_))))
            refine Wt.chain rfl (Wl.call (Coded_spec hr) rfl ?_)
            rintro _ w4 ⟨rfl, n4⟩
            refine Wl.nil ⟨rfl, New.trans n3 n4, ?_⟩
            (repeat' (first | refine Wt.guardY rfl rfl ?_ | refine Wt.quiet rfl (Wq.moveE (by conv => { lhs; whnf }) (Wq.nil ?_))))
            refine Wt.quiet rfl (Wq.strTo rfl rfl (by omega) (by omega) (Wq.nil ?_))
            rw [Int.toNat_natCast]
            (repeat' (refine Wt.guardY rfl rfl ?_))
            refine Wt.quiet rfl (Wq.seql rfl rfl (fun a4 => Wq.nil ?_) (fun a4 => Wq.nil ?_))
            · (repeat' (first | refine Wt.nil ?_ | refine Wt.quiet rfl (Wq.pickTE rfl (by conv => { lhs; whnf }) (Wq.nil ?_))))
              (repeat' (first | refine Wl.moveE (by conv => { lhs; whnf }) ?_ | refine Wl.assignE (by conv => { lhs; whnf }) ?_ | refine Wl.nil ?_ | refine Qseq.normal ?_ | refine Wc.seq ?_ | refine Wc.region ?_ | refine Wc.ret ?_ | refine Qseq.ret ?_ | refine Qblk.ret ?_ | refine Qloop.ret ?_ | refine Wc.condT rfl ?_))
              refine Qfn.ret2 rfl rfl rfl ⟨_, rfl, ?_, New.trans nW (New.trans n3 n4)⟩
              rw [begins_of hi1 (by omega) hno (hso.2 ⟨by have := a1.h; omega, by have := a3.h; omega, a4⟩)]
              rfl
            · (repeat' (first | refine Wt.nil ?_ | refine Wt.quiet rfl (Wq.pickTE rfl (by conv => { lhs; whnf }) (Wq.nil ?_))))
              (repeat' (first | refine Wl.moveE (by conv => { lhs; whnf }) ?_ | refine Wl.assignE (by conv => { lhs; whnf }) ?_ | refine Wl.nil ?_ | refine Qseq.normal ?_ | refine Wc.region ?_ | refine Wc.skip ?_ | refine Qblk.normal ?_ | refine Wc.condF rfl ?_ | refine Wl.add rfl rfl (by omega) (by omega) ?_))
              exact Qloop.normal (i + 1) ⟨rfl, rfl, trivial⟩ ⟨by omega, by omega, step fun e => a4 e.2.2, New.trans nW (New.trans n3 n4)⟩ (by omega)
          · (repeat' (first | refine Wt.nil ?_ | refine Wt.guardY rfl rfl ?_ | refine Wt.guardN rfl rfl (by assumption) ?_ | refine Wt.quiet rfl (Wq.moveE (by conv => { lhs; whnf }) (Wq.nil ?_)) | refine Wt.quiet rfl (Wq.pickTE rfl (by conv => { lhs; whnf }) (Wq.nil ?_)) | refine Wt.quiet rfl (Wq.pickFE rfl (by conv => { lhs; whnf }) (Wq.nil ?_))))
            (repeat' (first | refine Wl.moveE (by conv => { lhs; whnf }) ?_ | refine Wl.assignE (by conv => { lhs; whnf }) ?_ | refine Wl.nil ?_ | refine Qseq.normal ?_ | refine Wc.region ?_ | refine Wc.skip ?_ | refine Qblk.normal ?_ | refine Wc.condF rfl ?_ | refine Wl.add rfl rfl (by omega) (by omega) ?_))
            exact Qloop.normal (i + 1) ⟨rfl, rfl, trivial⟩ ⟨by omega, by omega, step fun e => by have := a2.h; have := a3.h; omega, New.trans nW n3⟩ (by omega)
      · (repeat' (first | refine Wt.nil ?_ | refine Wt.guardN rfl rfl (by assumption) ?_ | refine Wt.guardU rfl (by assumption) ?_ | refine Wt.quiet rfl (Wq.moveE (by conv => { lhs; whnf }) (Wq.nil ?_)) | refine Wt.quiet rfl (Wq.pickFE rfl (by conv => { lhs; whnf }) (Wq.nil ?_))))
        (repeat' (first | refine Wl.moveE (by conv => { lhs; whnf }) ?_ | refine Wl.assignE (by conv => { lhs; whnf }) ?_ | refine Wl.nil ?_ | refine Qseq.normal ?_ | refine Wc.region ?_ | refine Wc.skip ?_ | refine Qblk.normal ?_ | refine Wc.condF rfl ?_ | refine Wl.add rfl rfl (by omega) (by omega) ?_))
        exact Qloop.normal (i + 1) ⟨rfl, rfl, trivial⟩ ⟨by omega, by omega, step fun e => by have := a1.h; omega, New.trans nW n3⟩ (by omega)
  all_goals
    refine Qfn.ret2 rfl rfl rfl ⟨_, rfl, ?_, nW⟩
    rw [begins_no fun m hm1 hm2 e => ?_]
    · rfl
    rcases Nat.lt_or_ge m n with h | h
    · exact hno m hm1 h e
    · have := sayOk_le e; omega
end Go.Proofs.YtpnpllghabbhlaaGreatDoor

namespace Go.Proofs.YtpnpllghabbhlaaGreatDoor
open Go

theorem gB_take (s : List UInt8) {n i : Nat} (h : i < n) : gB (s.take n) i = gB s i := by unfold gB; rw [List.getElem?_take_of_lt h]
theorem decodeN_len {n m b0 b1 b2 b3 : Nat} (h1 : 1 < n ↔ 1 < m) (h2 : 2 < n ↔ 2 < m) (h3 : 3 < n ↔ 3 < m) : Lib.decodeN n b0 b1 b2 b3 = Lib.decodeN m b0 b1 b2 b3 := by
  unfold Lib.decodeN
  simp only [h1, h2, h3]
theorem decW_take (s : List UInt8) : decW (s.take 4) = decW s := by
  unfold decW
  rw [gB_take s (by omega), gB_take s (by omega), gB_take s (by omega), gB_take s (by omega), List.length_take]
  exact decodeN_len (by omega) (by omega) (by omega)
/-- A piece: its bytes, its rune (-1: a break). -/
abbrev Pce := List UInt8 × Int
def pieceW (s : List UInt8) : Pce := if decW s = (65533, 1) then (s.take 1, -1) else (s.take (decW s).2, ((decW s).1 : Nat))
def piecesW (s : List UInt8) : List Pce := if h : s = [] then [] else pieceW s :: piecesW (s.drop (decW s).2)
termination_by s.length
decreasing_by
  have := decW_w h
  rw [List.length_drop]; omega
theorem piecesW_nil : piecesW [] = [] := by rw [piecesW]; rfl
theorem piecesW_cons {s : List UInt8} (h : s ≠ []) : piecesW s = pieceW s :: piecesW (s.drop (decW s).2) := by rw [piecesW, dif_neg h]
def hexL (b : UInt8) : List (List UInt8) := [[92], [120], [hexd (b.toNat / 16)], [hexd (b.toNat % 16)]]
def ctlI (r : Int) : Prop := r < 32 ∨ (127 ≤ r ∧ r ≤ 159)
instance (r : Int) : Decidable (ctlI r) := by unfold ctlI; infer_instance
def showP (p : Pce) : List (List UInt8) := if ctlI p.2 then p.1.flatMap hexL else if p.2 = 92 ∨ p.2 = 34 then [[92], p.1] else [p.1]
theorem pieceW_ascii {s S : List UInt8} {R : Int} {c : UInt8} (h : s ≠ []) (hp : pieceW s = (S, R)) (hc : R = c.toNat) (h1 : c.toNat < 128) : S = [c] := by
  unfold pieceW at hp
  split at hp
  · cases hp; omega
  · cases hp
    have hd := decW_small (s := s) (by omega)
    rw [hd.1]
    match s, h with
    | a :: s, _ =>
      have e0 : gB (a :: s) 0 = a.toNat := rfl
      have : a = c := UInt8.toNat.inj (by rw [← e0, hd.2]; omega)
      rw [this]; rfl
theorem hexL_flat (l : List UInt8) : (l.flatMap hexL).flatten = encT (l.map .hex) := by
  induction l with
  | nil => rfl
  | cons b l ih =>
    rw [List.flatMap_cons, List.flatten_append, ih]
    rfl
theorem raw_flat (l : List UInt8) : encT (l.map .raw) = l := by
  induction l with
  | nil => rfl
  | cons b l ih =>
    show [b] ++ encT (l.map .raw) = _
    rw [ih]; rfl
theorem showP_flat {s : List UInt8} (h : s ≠ []) : (showP (pieceW s)).flatten = encT (pieceT s) := by
  unfold showP pieceW pieceT
  by_cases hb : decW s = (65533, 1)
  · rw [if_pos hb, if_pos (.inl (by show (-1 : Int) < 32; decide)), if_pos (.inl hb), hb]
    exact hexL_flat _
  · rw [if_neg hb]
    by_cases hc : ctl (decW s).1
    · rw [if_pos (by unfold ctl at hc; unfold ctlI; dsimp only; omega), if_pos (.inr hc)]
      exact hexL_flat _
    · rw [if_neg (by unfold ctl at hc; unfold ctlI; dsimp only; omega)]
      dsimp only
      have hn : ¬ (decW s = (65533, 1) ∨ ctl (decW s).1) := by rintro (e | e); exact hb e; exact hc e
      by_cases hq : (decW s).1 = 92 ∨ (decW s).1 = 34
      · rw [if_pos (by omega), if_neg hn, if_pos hq, (decW_small (by omega)).1]
        match s, h with
        | a :: s, _ => rfl
      · rw [if_neg (by omega), if_neg hn, if_neg hq, raw_flat]
        simp
theorem pieces_flat (s : List UInt8) : ((piecesW s).flatMap showP).flatten = encT (toks s) := by
  induction s using toks.induct with
  | case1 => rw [piecesW_nil, toks_nil]; rfl
  | case2 s h ih =>
    rw [piecesW_cons h, toks_cons h, List.flatMap_cons, List.flatten_append, showP_flat h, ih]
    unfold encT
    rw [List.flatMap_append]
theorem pieces_len (s : List UInt8) : (piecesW s).length ≤ s.length := by
  induction s using toks.induct with
  | case1 => rw [piecesW_nil]; exact Nat.le_refl _
  | case2 s h ih =>
    have := decW_w h
    rw [piecesW_cons h, List.length_cons]
    rw [List.length_drop] at ih
    omega
theorem pieces_small (s : List UInt8) : ∀ p ∈ piecesW s, p.1.length ≤ 4 := by
  induction s using toks.induct with
  | case1 => rw [piecesW_nil]; intro p hp; cases hp
  | case2 s h ih =>
    have := decW_w h
    rw [piecesW_cons h]
    intro p hp
    rcases List.mem_cons.1 hp with rfl | hp
    · unfold pieceW
      split
      · rw [List.length_take]; omega
      · rw [List.length_take]; omega
    · exact ih p hp
theorem flatHex_len (l : List UInt8) : (l.flatMap hexL).length = 4 * l.length := by
  induction l with
  | nil => rfl
  | cons b l ih => rw [List.flatMap_cons, List.length_append, ih, List.length_cons]; show 4 + _ = _; omega
theorem showP_len (p : Pce) : (showP p).length ≤ 4 * p.1.length + 2 := by
  unfold showP
  split
  · rw [flatHex_len]; omega
  · split
    · show 2 ≤ _; omega
    · show 1 ≤ _; omega
theorem shown_len {l : List Pce} (h : ∀ p ∈ l, p.1.length ≤ 4) : (l.flatMap showP).length ≤ 18 * l.length := by
  induction l with
  | nil => exact Nat.le_refl _
  | cons p l ih =>
    have h1 := showP_len p
    have h2 := h p List.mem_cons_self
    have h3 := ih fun q hq => h q (List.mem_cons_of_mem _ hq)
    rw [List.flatMap_cons, List.length_append, List.length_cons]
    omega
theorem encT_len (l : List Tok) : (encT l).length ≤ 4 * l.length := by
  induction l with
  | nil => exact Nat.le_refl _
  | cons t l ih =>
    show (t.enc ++ encT l).length ≤ _
    rw [List.length_append, List.length_cons]
    cases t <;> simp only [Tok.enc, List.length_cons, List.length_nil] <;> omega
theorem toks_len (s : List UInt8) : (toks s).length = s.length := by rw [← List.length_map (f := Tok.val), toks_val]
theorem encS_len (s : List UInt8) : (encT (toks s)).length ≤ 4 * s.length := by rw [← toks_len s]; exact encT_len _
/-- How many bytes a rune's form has. -/
def runeLen (r : Nat) : Nat := if r < 128 then 1 else if r < 2048 then 2 else if r < 65536 then 3 else 4
theorem decW_len {s : List UInt8} (h : decW s ≠ (65533, 1)) : (decW s).2 = runeLen (decW s).1 ∧ (decW s).1 ≤ 1114111 ∧ ((decW s).1 < 55296 ∨ 57343 < (decW s).1) := by
  have h0 := gB_lt s 0
  revert h
  unfold decW Lib.decodeN runeLen
  repeat' split
  all_goals dsimp only at *; intro h; first | exact absurd rfl h | omega
theorem decW_err {s : List UInt8} (h : (decW s).1 = 65533) : (decW s).2 = 1 ∨ ((decW s).2 = 3 ∧ gB s 0 = 239 ∧ gB s 1 = 191 ∧ gB s 2 = 189 ∧ 3 ≤ s.length) := by
  have h0 := gB_lt s 0
  revert h
  unfold decW Lib.decodeN
  repeat' split
  all_goals dsimp only at *; intro h; omega
theorem decW_fffd (s : List UInt8) : decW (239 :: 191 :: 189 :: s) = (65533, 3) := by
  have e0 : gB (239 :: 191 :: 189 :: s) 0 = 239 := rfl
  have e1 : gB (239 :: 191 :: 189 :: s) 1 = 191 := rfl
  have e2 : gB (239 :: 191 :: 189 :: s) 2 = 189 := rfl
  unfold decW
  rw [e0, e1, e2]
  unfold Lib.decodeN
  rw [if_neg (by decide), if_neg (fun e => absurd e.1 (by decide)), if_pos ⟨by decide, ⟨by simp only [List.length_cons]; omega, by decide⟩, by simp only [List.length_cons]; omega, by decide⟩, if_pos (by decide)]
end Go.Proofs.YtpnpllghabbhlaaGreatDoor

namespace Go.Proofs.YtpnpllghabbhlaaGreatDoor
open Go Wk
open Go.RowKit (Below)
attribute [local irreducible] Go.Calls

def pcC (p : Pce) : List Value := [vs p.1, .int .i32 p.2]
theorem run_buildPc {w : World} {a : List UInt8} {r : Int} : (Instr.build 95 #[(0, vs a), (1, .int .i32 r)]).run Tryz.prog w = .ok (.agg (pcC (a, r)).toArray) w := by kernel_rfl
theorem goodPc : GoodR (Wk.flat pcC) 2 := good_flat _ (fun _ => rfl) fun p c hc => by
  simp only [pcC, List.mem_cons, List.not_mem_nil, or_false] at hc
  rcases hc with rfl | rfl <;> rfl
theorem Pieces_spec {w : World} {s : List UInt8} (hl : s.length ≤ 100000000) :
    Calls Tryz.prog 66 #[vs s] w (Ret fun r w' => OwnS (Wk.flat pcC) 95 2 (fun k => w.heap.size ≤ k) NoB w' r (piecesW s) ∧ New w w') := by
  refine calls_of_Wc Tryz.func66 rfl Tryz.ntmps66 rfl ?_
  (repeat' (first | refine Wl.assignE (by conv => { lhs; whnf }) ?_ | refine Wl.nil ?_ | refine Qseq.normal ?_ | refine Wc.seq ?_ | refine Wc.region ?_ | refine Wc.block ?_))
  refine Wc.loop (σ := Nat × Value × List Pce) (fun x => [(0, vs s), (3, x.2.1), (4, vi x.1)]) (fun x W => x.1 ≤ s.length ∧ x.2.2.length ≤ x.1 ∧ x.2.2 ++ piecesW (s.drop x.1) = piecesW s ∧ OwnS (Wk.flat pcC) 95 2 (fun k => w.heap.size ≤ k) NoB W x.2.1 x.2.2 ∧ New w W) (fun x => s.length - x.1) (0, .slice none 0 0, []) ⟨rfl, rfl, rfl, trivial⟩ ⟨Nat.zero_le _, Nat.le_refl _, rfl, OwnS.nil, Chg.refl _ _⟩ ?_
  rintro ⟨i, v, l⟩ G W ⟨hi, hln, hpc, o, n⟩
  dsimp only at hi hln hpc o
  simp only [upds]
  (repeat' (first | refine Wl.moveE (by conv => { lhs; whnf }) ?_ | refine Wl.assignE (by conv => { lhs; whnf }) ?_ | refine Wl.nil ?_ | refine Wl.lenStr rfl ?_ | refine Qseq.normal ?_ | refine Wc.seq ?_ | refine Wc.region ?_ | refine Wc.block ?_ | refine Wc.skip ?_ | refine Wc.exit ?_ | refine Wc.ret ?_ | refine Qseq.exit ?_ | refine Qblk.hit ?_ | refine Qloop.exit ?_ | refine Wc.condT rfl ?_ | refine Wc.condF rfl ?_ | refine Wl.add rfl rfl (by omega) (by omega) ?_ | refine Wl.lss rfl rfl (fun _ => ?_) (fun _ => ?_)))
  · refine Wl.minI rfl rfl ?_
    have hne : s.drop i ≠ [] := fun e => by have := congrArg List.length e; rw [List.length_drop, List.length_nil] at this; omega
    have hmin : (if ((i : Int) + 4) < (s.length : Int) then ((i : Int) + 4) else (s.length : Int)) = ((min (i + 4) s.length : Nat) : Int) := by split <;> omega
    rw [hmin]
    refine Wl.strBoth rfl rfl rfl (by omega) (by omega) (by omega) ?_
    rw [Int.toNat_natCast, Int.toNat_natCast, List.drop_take, show (s.drop i).take (min (i + 4) s.length - i) = (s.drop i).take 4 by
      rcases Nat.lt_or_ge s.length (i + 4) with h | h
      · rw [Nat.min_eq_right (by omega), List.take_of_length_le (by rw [List.length_drop]; omega), List.take_of_length_le (by rw [List.length_drop]; omega)]
      · rw [Nat.min_eq_left h]; congr 1; omega]
    refine Wl.call (begins_spec (s := (s.drop i).take 4) (by rw [List.length_take]; omega)) rfl ?_
    rintro _ W1 ⟨rfl, n1⟩
    have hb := begins_dec (s := (s.drop i).take 4) (fun e => by have := congrArg List.length e; rw [List.length_take, List.length_drop, List.length_nil] at this; omega)
    rw [decW_take] at hb
    rw [hb]
    have hw := decW_w hne
    rw [List.length_drop] at hw
    have hpce : piecesW (s.drop i) = pieceW (s.drop i) :: piecesW (s.drop (i + (decW (s.drop i)).2)) := by rw [piecesW_cons hne, List.drop_drop]
    have ob := o.new (plain_flat _) n1
    have hsz := n.size
    have hsz1 := n1.size
    by_cases hbr : decW (s.drop i) = (65533, 1)
    · have hpw : pieceW (s.drop i) = ((s.drop i).take 1, -1) := by unfold pieceW; rw [if_pos hbr]
      rw [if_pos hbr]
      rw [hbr] at hpce hw
      dsimp only at hpce hw ⊢
      (repeat' (first | refine Wl.moveE (by conv => { lhs; whnf }) ?_ | refine Wl.assignE (by conv => { lhs; whnf }) ?_ | refine Wl.nil ?_ | refine Wl.extract rfl rfl ?_ | refine Qseq.normal ?_ | refine Wc.seq ?_ | refine Wc.region ?_ | refine Wc.condT rfl ?_ | refine Wl.add rfl rfl (by omega) (by omega) ?_ | (refine Wl.eql rfl rfl (fun _ => ?_) (fun _ => ?_) <;> (first | (exfalso; omega) | skip))))
      refine Wl.strBoth rfl rfl rfl (by omega) (by omega) (by omega) ?_
      rw [show ((s.take ((i : Int) + 1).toNat).drop (i : Int).toNat) = (s.drop i).take 1 by rw [Int.toNat_natCast, List.drop_take]; congr 1; omega]
      (repeat' (refine Wl.moveE (by conv => { lhs; whnf }) ?_))
      refine Wl.buildG rfl (run_buildPc (a := (s.drop i).take 1) (r := -1)) ?_
      skip
      refine Wl.append1 (R := Wk.flat pcC) (y := pieceW (s.drop i)) goodPc ob rfl rfl rfl rfl (by rw [hpw]; rfl) (by omega) (by omega) (by simp only [maxLen]; omega) (by omega) rfl rfl fun v' W2 _ o' c' lie => ?_
      have hb' : ∀ k, v.ownBlock = some k → w.heap.size ≤ k := fun k hk => (ob.lt hk).1
      have cc : Chg (fun k => w.heap.size ≤ k) w W2 := Chg.trans (New.trans n n1).any c' fun k _ e => hb' k e
      (repeat' (first | refine Wl.moveE (by conv => { lhs; whnf }) ?_ | refine Wl.assignE (by conv => { lhs; whnf }) ?_ | refine Wl.nil ?_ | refine Qseq.normal ?_ | refine Wc.region ?_ | refine Qblk.normal ?_ | refine Wl.add rfl rfl (by omega) (by omega) ?_))
      exact Qloop.normal (i + 1, v', l ++ [pieceW (s.drop i)]) ⟨rfl, rfl, rfl, trivial⟩ ⟨by dsimp only; omega, by dsimp only; rw [List.length_append, List.length_singleton]; omega, by dsimp only; rw [List.append_assoc, List.singleton_append, ← hpce, hpc], o'.mono goodPc.mo (fun k _ e => by rcases e with e | e <;> omega) (fun _ _ e => e), ⟨cc.os, cc.tape, cc.output, cc.size, fun k hk _ => cc.block k hk (by omega)⟩⟩ (by dsimp only; omega)
    · have hpw : pieceW (s.drop i) = ((s.drop i).take (decW (s.drop i)).2, ((decW (s.drop i)).1 : Int)) := by unfold pieceW; rw [if_neg hbr]
      rw [if_neg hbr]
      (repeat' (first | refine Wl.moveE (by conv => { lhs; whnf }) ?_ | refine Wl.assignE (by conv => { lhs; whnf }) ?_ | refine Wl.nil ?_ | refine Wl.extract rfl rfl ?_ | refine Qseq.normal ?_ | refine Wc.seq ?_ | refine Wc.region ?_ | refine Wc.skip ?_ | refine Wc.condF rfl ?_ | refine Wl.add rfl rfl (by omega) (by omega) ?_ | (refine Wl.eql rfl rfl (fun _ => ?_) (fun _ => ?_) <;> (first | (exfalso; omega) | skip))))
      refine Wl.strBoth rfl rfl rfl (by omega) (by omega) (by omega) ?_
      rw [show ((s.take ((i : Int) + (decW (s.drop i)).2).toNat).drop (i : Int).toNat) = (s.drop i).take (decW (s.drop i)).2 by rw [Int.toNat_natCast, List.drop_take]; congr 1; omega]
      (repeat' (refine Wl.moveE (by conv => { lhs; whnf }) ?_))
      refine Wl.buildG rfl (run_buildPc (a := (s.drop i).take (decW (s.drop i)).2) (r := ((decW (s.drop i)).1 : Nat))) ?_
      skip
      refine Wl.append1 (R := Wk.flat pcC) (y := pieceW (s.drop i)) goodPc ob rfl rfl rfl rfl (by rw [hpw]; rfl) (by omega) (by omega) (by simp only [maxLen]; omega) (by omega) rfl rfl fun v' W2 _ o' c' lie => ?_
      have hb' : ∀ k, v.ownBlock = some k → w.heap.size ≤ k := fun k hk => (ob.lt hk).1
      have cc : Chg (fun k => w.heap.size ≤ k) w W2 := Chg.trans (New.trans n n1).any c' fun k _ e => hb' k e
      (repeat' (first | refine Wl.moveE (by conv => { lhs; whnf }) ?_ | refine Wl.assignE (by conv => { lhs; whnf }) ?_ | refine Wl.nil ?_ | refine Qseq.normal ?_ | refine Wc.region ?_ | refine Qblk.normal ?_ | refine Wl.add rfl rfl (by omega) (by omega) ?_))
      exact Qloop.normal (i + (decW (s.drop i)).2, v', l ++ [pieceW (s.drop i)]) ⟨rfl, rfl, rfl, trivial⟩ ⟨by dsimp only; omega, by dsimp only; rw [List.length_append, List.length_singleton]; omega, by dsimp only; rw [List.append_assoc, List.singleton_append, ← hpce, hpc], o'.mono goodPc.mo (fun k _ e => by rcases e with e | e <;> omega) (fun _ _ e => e), ⟨cc.os, cc.tape, cc.output, cc.size, fun k hk _ => cc.block k hk (by omega)⟩⟩ (by dsimp only; omega)
  · refine Qfn.ret1 rfl rfl ⟨_, rfl, ?_, n⟩
    rw [List.drop_eq_nil_of_le (by omega), piecesW_nil, List.append_nil] at hpc
    rw [← hpc]
    exact o
theorem hex_take (k : Nat) (h : k < 16) : (hexS.take (k + 1)).drop k = [hexd k] := by
  rw [List.drop_take, show k + 1 - k = 1 by omega]
  have := hexS_get h
  rw [List.take_one, List.head?_drop, this]; rfl
theorem hexL_len (l : List UInt8) : (l.flatMap hexL).length = 4 * l.length := by
  induction l with
  | nil => rfl
  | cons b l ih => rw [List.flatMap_cons, List.length_append, ih, List.length_cons]; show 4 + _ = _; omega
theorem hexL_next {l : List UInt8} {i : Nat} {c : UInt8} (h : l[i]? = some c) : (l.take (i + 1)).flatMap hexL = (l.take i).flatMap hexL ++ hexL c := by
  rw [List.take_add_one, h, List.flatMap_append]; simp
theorem shown_spec {w : World} {S : List UInt8} {r : Int} (hl : S.length ≤ 100000) :
    Calls Tryz.prog 67 #[.agg #[vs S, .int .i32 r], .bool true] w (Ret fun v w' => OwnS (one vs) 9 1 (fun k => w.heap.size ≤ k) NoB w' v (showP (S, r)) ∧ New w w') := by
  refine calls_of_Wc Tryz.func67 rfl Tryz.ntmps67 rfl ?_
  (repeat' (first | refine Wc.seq ?_ | refine Wc.region ?_))
  refine Wl.box rfl fun w1 hb1 n1 s1 => ?_
  (repeat' (first | refine Wl.assignE (by conv => { lhs; whnf }) ?_ | refine Wl.nil ?_ | refine Qseq.normal ?_))
  refine Wc.cutR (fun F W => agrees F [(1, .bool true), (2, .pointer (some ⟨w.heap.size, 0, none⟩))] ∧ w1 = W ∧ ¬ ctlI r) ?_ ?_
  · skip
    refine Wc.cutR (fun F W => agrees F [(1, .bool true), (2, .pointer (some ⟨w.heap.size, 0, none⟩)), (19, .bool (decide (ctlI r)))] ∧ w1 = W) ?_ ?_
    · (repeat' (first | refine Wc.region ?_ | refine Wl.fieldAddr rfl rfl ?_))
      refine Wl.load1 rfl (hb1.cell (o := 1) rfl) ?_
      (repeat' (first | refine Wl.moveE (by conv => { lhs; whnf }) ?_ | refine Wl.nil ?_ | refine Wl.guardY rfl rfl ?_ | refine Wl.guardN rfl rfl ?_ | refine Wl.guardU rfl ?_ | refine Wl.pickTE rfl (by conv => { lhs; whnf }) ?_ | refine Wl.fieldAddr rfl rfl ?_ | refine Wl.lss rfl rfl (fun _ => ?_) (fun _ => ?_)))
      · exact Qm.normal ⟨⟨rfl, rfl, by rw [decide_eq_true (by unfold ctlI; omega)]; rfl, trivial⟩, rfl⟩
      · refine Wl.load1 rfl (hb1.cell (o := 1) rfl) ?_
        (repeat' (first | refine Wl.moveE (by conv => { lhs; whnf }) ?_ | refine Wl.nil ?_ | refine Wl.guardY rfl rfl ?_ | refine Wl.guardN rfl rfl ?_ | refine Wl.pickFE rfl (by conv => { lhs; whnf }) ?_ | refine Wl.fieldAddr rfl rfl ?_ | refine Wl.geq rfl rfl (fun _ => ?_) (fun _ => ?_)))
        · refine Wl.load1 rfl (hb1.cell (o := 1) rfl) ?_
          (repeat' (first | refine Wl.nil ?_ | refine Wl.guardY rfl rfl ?_ | refine Wl.pickTE rfl (by conv => { lhs; whnf }) ?_ | refine Wl.pickFE rfl (by conv => { lhs; whnf }) ?_ | refine Wl.leq rfl rfl (fun _ => ?_) (fun _ => ?_)))
          · exact Qm.normal ⟨⟨rfl, rfl, by rw [decide_eq_true (by unfold ctlI; omega)]; rfl, trivial⟩, rfl⟩
          · exact Qm.normal ⟨⟨rfl, rfl, by rw [decide_eq_false (by unfold ctlI; omega)]; rfl, trivial⟩, rfl⟩
        · exact Qm.normal ⟨⟨rfl, rfl, by rw [decide_eq_false (by unfold ctlI; omega)]; rfl, trivial⟩, rfl⟩
    rintro F _ ⟨ag, rfl⟩
    refine Wc.frame _ ag fun G => ?_
    clear ag
    simp only [upds]
    by_cases hc : ctlI r
    · rw [decide_eq_true hc]
      have hsh : showP (S, r) = S.flatMap hexL := by unfold showP; rw [if_pos hc]
      rw [hsh]
      replace hc := Fact.mk hc
      (repeat' (first | refine Wl.assignE (by conv => { lhs; whnf }) ?_ | refine Wl.nil ?_ | refine Qseq.normal ?_ | refine Wc.seq ?_ | refine Wc.region ?_ | refine Wc.block ?_ | refine Wc.condT rfl ?_))
      refine Wc.loop (σ := Nat × Value) (fun x => [(2, .pointer (some ⟨w.heap.size, 0, none⟩)), (5, x.2), (6, vi x.1)]) (fun x W => x.1 ≤ S.length ∧ OwnS (one vs) 9 1 (fun k => w1.heap.size ≤ k) NoB W x.2 ((S.take x.1).flatMap hexL) ∧ New w1 W) (fun x => S.length - x.1) (0, .slice none 0 0) ⟨rfl, rfl, rfl, trivial⟩ ⟨Nat.zero_le _, OwnS.nil, Chg.refl _ _⟩ ?_
      rintro ⟨i, v⟩ G W ⟨hi, o, n⟩
      dsimp only at hi o
      simp only [upds]
      have hbW := hb1.chg n fun e => e
      (repeat' (first | refine Wl.moveE (by conv => { lhs; whnf }) ?_ | refine Wc.seq ?_ | refine Wc.region ?_ | refine Wl.fieldAddr rfl rfl ?_))
      refine Wl.load1 rfl (hbW.cell (o := 0) rfl) ?_
      (repeat' (first | refine Wl.moveE (by conv => { lhs; whnf }) ?_ | refine Wl.assignE (by conv => { lhs; whnf }) ?_ | refine Wl.nil ?_ | refine Wl.lenStr rfl ?_ | refine Qseq.normal ?_ | refine Wc.seq ?_ | refine Wc.region ?_ | refine Wc.block ?_ | refine Wc.skip ?_ | refine Wc.exit ?_ | refine Wc.ret ?_ | refine Qseq.exit ?_ | refine Qblk.hit ?_ | refine Qloop.exit ?_ | refine Wc.condT rfl ?_ | refine Wc.condF rfl ?_ | refine Wl.lss rfl rfl (fun _ => ?_) (fun _ => ?_)))
      · obtain ⟨c, hc⟩ := get_byte S (k := i) (by omega)
        have hc8 := c.toNat_lt
        have nb : ∀ w', Chg (fun b => v.ownBlock = some b) W w' → Bk w' w.heap.size 95 [vs S, .int .i32 r] := fun w' hw => hbW.chg hw fun e => by have := (o.lt e).1; omega
        refine Wc.regionT rfl (by kernel_rfl) (fun w' => Chg (fun b => v.ownBlock = some b) W w') (Chg.drew _ _) ?_
        intro W1 c1
        (repeat' (first | refine Wt.quiet rfl (Wq.moveE (by conv => { lhs; whnf }) (Wq.nil ?_)) | refine Wt.quiet rfl (Wq.fieldAddr rfl rfl (Wq.nil ?_))))
        refine Wt.quiet rfl (Wq.load1 rfl (fun w' hw => (nb w' hw).cell (o := 0) rfl) (Wq.nil ?_))
        (repeat' (refine Wt.quiet rfl (Wq.moveE (by conv => { lhs; whnf }) (Wq.nil ?_))))
        refine Wt.quiet rfl (Wq.idxStr rfl rfl (by omega) (by rw [Int.toNat_natCast]; exact hc) (Wq.nil ?_))
        refine Wt.quiet rfl (Wq.quoW rfl rfl (by decide) (Wq.nil ?_))
        rw [show (c.toNat : Int).tdiv 16 = ((c.toNat / 16 : Nat) : Int) from rfl, w8 (by omega)]
        (repeat' (refine Wt.quiet rfl (Wq.fieldAddr rfl rfl (Wq.nil ?_))))
        refine Wt.quiet rfl (Wq.load1 rfl (fun w' hw => (nb w' hw).cell (o := 0) rfl) (Wq.nil ?_))
        (repeat' (refine Wt.quiet rfl (Wq.moveE (by conv => { lhs; whnf }) (Wq.nil ?_))))
        refine Wt.quiet rfl (Wq.idxStr rfl rfl (by omega) (by rw [Int.toNat_natCast]; exact hc) (Wq.nil ?_))
        refine Wt.quiet rfl (Wq.quoW rfl rfl (by decide) (Wq.nil ?_))
        rw [show (c.toNat : Int).tdiv 16 = ((c.toNat / 16 : Nat) : Int) from rfl, w8 (by omega)]
        refine Wt.quiet rfl (Wq.addW rfl rfl (Wq.nil ?_))
        rw [show ((c.toNat / 16 : Nat) : Int) + 1 = ((c.toNat / 16 + 1 : Nat) : Int) by omega, w8 (by omega)]
        refine Wt.quiet rfl (Wq.strBoth (l := hexS) rfl rfl rfl (by omega) (by omega) (by simp only [hexS, List.length_cons, List.length_nil]; omega) (Wq.nil ?_))
        rw [Int.toNat_natCast, Int.toNat_natCast, hex_take _ (by omega)]
        (repeat' (refine Wt.quiet rfl (Wq.fieldAddr rfl rfl (Wq.nil ?_))))
        refine Wt.quiet rfl (Wq.load1 rfl (fun w' hw => (nb w' hw).cell (o := 0) rfl) (Wq.nil ?_))
        (repeat' (refine Wt.quiet rfl (Wq.moveE (by conv => { lhs; whnf }) (Wq.nil ?_))))
        refine Wt.quiet rfl (Wq.idxStr rfl rfl (by omega) (by rw [Int.toNat_natCast]; exact hc) (Wq.nil ?_))
        refine Wt.quiet rfl (Wq.remW rfl rfl (by decide) (Wq.nil ?_))
        rw [show (c.toNat : Int).tmod 16 = ((c.toNat % 16 : Nat) : Int) from rfl]
        (repeat' (refine Wt.quiet rfl (Wq.fieldAddr rfl rfl (Wq.nil ?_))))
        refine Wt.quiet rfl (Wq.load1 rfl (fun w' hw => (nb w' hw).cell (o := 0) rfl) (Wq.nil ?_))
        (repeat' (refine Wt.quiet rfl (Wq.moveE (by conv => { lhs; whnf }) (Wq.nil ?_))))
        refine Wt.quiet rfl (Wq.idxStr rfl rfl (by omega) (by rw [Int.toNat_natCast]; exact hc) (Wq.nil ?_))
        refine Wt.quiet rfl (Wq.remW rfl rfl (by decide) (Wq.nil ?_))
        rw [show (c.toNat : Int).tmod 16 = ((c.toNat % 16 : Nat) : Int) from rfl]
        refine Wt.quiet rfl (Wq.addW rfl rfl (Wq.nil ?_))
        rw [show ((c.toNat % 16 : Nat) : Int) + 1 = ((c.toNat % 16 + 1 : Nat) : Int) by omega, w8 (by omega)]
        refine Wt.quiet rfl (Wq.strBoth (l := hexS) rfl rfl rfl (by omega) (by omega) (by simp only [hexS, List.length_cons, List.length_nil]; omega) (Wq.nil ?_))
        rw [Int.toNat_natCast, Int.toNat_natCast, hex_take _ (by omega)]
        refine Wt.chain rfl (Wl.buildSliceN (R := one vs) (Pe := NoB) (xs := hexL c) (us := (hexL c).map vs) goodVs rfl rfl ⟨rfl, rfl, rfl, rfl, rfl, rfl, rfl, rfl, trivial⟩ (by simp [hexL]) (by simp [hexL]) fun v2 W2 o2 n2 s2 e2 => ?_)
        have n12 := New.trans c1 n2
        refine Wl.nil ⟨rfl, n12.any, ?_⟩
        have oW1 := o.new (plain_one _) n12
        have hl4 := hexL_len (S.take i)
        rw [List.length_take] at hl4
        have hl4' : (hexL c).length = 4 := rfl
        refine Wt.chain rfl (Wl.appendAll (R := one vs) goodVs oW1 (o2.rd goodVs.mo) (fun y cs hy => hy) rfl rfl (by omega) (by simp only [maxLen]; omega) (by omega) fun v5 W5 o5 c5 lie _ => ?_)
        have c15 : Chg (fun b => v.ownBlock = some b) W W5 := Chg.trans n12.any c5 fun _ _ e => e
        rw [← hexL_next hc] at o5
        refine Wl.nil ⟨rfl, c15, ?_⟩
        (repeat' (first | refine Wt.nil ?_ | refine Wt.quiet rfl (Wq.assignE (by conv => { lhs; whnf }) (Wq.nil ?_))))
        (repeat' (first | refine Wl.moveE (by conv => { lhs; whnf }) ?_ | refine Wl.assignE (by conv => { lhs; whnf }) ?_ | refine Wl.nil ?_ | refine Qseq.normal ?_ | refine Wc.region ?_ | refine Qblk.normal ?_ | refine Wl.add rfl rfl (by omega) (by omega) ?_))
        have hz := n12.size
        have hz1 := n.size
        exact Qloop.normal (i + 1, v5) ⟨rfl, rfl, rfl, trivial⟩ ⟨by dsimp only; omega, o5.mono goodVs.mo (fun k _ e => by rcases e with e | e <;> omega) (fun _ _ e => e), (Chg.trans n.any c15 fun k _ e => e).toNew fun k hk e => by have := (o.lt e).1; omega⟩ (by dsimp only; omega)
      · refine Qm.ret (Qfn.ret1 rfl rfl ⟨_, rfl, ?_, New.trans n1 n⟩)
        rw [List.take_of_length_le (by omega)] at o
        exact o.mono goodVs.mo (fun k _ e => by omega) fun _ _ e => e
    · rw [decide_eq_false hc]
      (repeat' (first | refine Wc.skip ?_ | refine Wc.condF rfl ?_))
      exact Qm.normal ⟨⟨rfl, rfl, trivial⟩, rfl, hc⟩
  rintro F _ ⟨ag, rfl, hc⟩
  refine Wc.frame _ ag fun G => ?_
  clear ag
  simp only [upds]
  have hne : showP (S, r) = if r = 92 ∨ r = 34 then [[92], S] else [S] := by unfold showP; rw [if_neg hc]
  rw [hne]
  clear hne hc
  refine Wc.seq ?_
  refine Wc.cutR (fun F W => agrees F [(2, .pointer (some ⟨w.heap.size, 0, none⟩)), (65, .bool (decide (r = 92 ∨ r = 34)))] ∧ w1 = W) ?_ ?_
  · (repeat' (first | refine Wc.region ?_ | refine Wl.fieldAddr rfl rfl ?_))
    refine Wl.load1 rfl (hb1.cell (o := 1) rfl) ?_
    (repeat' (first | refine Wl.moveE (by conv => { lhs; whnf }) ?_ | refine Wl.nil ?_ | refine Wl.guardY rfl rfl ?_ | refine Wl.guardN rfl rfl ?_ | refine Wl.guardU rfl ?_ | refine Wl.pickTE rfl (by conv => { lhs; whnf }) ?_ | refine Wl.fieldAddr rfl rfl ?_ | refine Wl.eql rfl rfl (fun _ => ?_) (fun _ => ?_)))
    · exact Qm.normal ⟨⟨rfl, by rw [decide_eq_true (by omega)]; rfl, trivial⟩, rfl⟩
    · refine Wl.load1 rfl (hb1.cell (o := 1) rfl) ?_
      (repeat' (first | refine Wl.nil ?_ | refine Wl.guardY rfl rfl ?_ | refine Wl.pickTE rfl (by conv => { lhs; whnf }) ?_ | refine Wl.pickFE rfl (by conv => { lhs; whnf }) ?_ | refine Wl.eql rfl rfl (fun _ => ?_) (fun _ => ?_)))
      · exact Qm.normal ⟨⟨rfl, by rw [decide_eq_true (by omega)]; rfl, trivial⟩, rfl⟩
      · exact Qm.normal ⟨⟨rfl, by rw [decide_eq_false (by omega)]; rfl, trivial⟩, rfl⟩
  rintro F _ ⟨ag, rfl⟩
  refine Wc.frame _ ag fun G => ?_
  clear ag
  simp only [upds]
  by_cases hq : r = 92 ∨ r = 34
  · rw [decide_eq_true hq, if_pos hq]
    clear hq
    (repeat' (first | refine Wc.seq ?_ | refine Wc.region ?_ | refine Wc.condT rfl ?_ | refine Wl.fieldAddr rfl rfl ?_))
    refine Wl.load1 rfl (hb1.cell (o := 0) rfl) ?_
    skip
    refine Wl.buildSliceN (R := one vs) (Pe := NoB) (xs := [[92], S]) (us := [vs [92], vs S]) goodVs rfl rfl ⟨rfl, rfl, rfl, rfl, trivial⟩ (by simp) (by simp) fun v2 W2 o2 n2 s2 e2 => ?_
    (repeat' (first | refine Wl.assignE (by conv => { lhs; whnf }) ?_ | refine Wl.nil ?_ | refine Qseq.normal ?_ | refine Wc.ret ?_ | refine Qseq.ret ?_))
    have hz := n1.size
    exact Qfn.ret1 rfl rfl ⟨_, rfl, o2.mono goodVs.mo (fun k _ e => by omega) (fun _ _ e => e), New.trans n1 n2⟩
  · rw [decide_eq_false hq, if_neg hq]
    clear hq
    (repeat' (first | refine Qseq.normal ?_ | refine Wc.seq ?_ | refine Wc.region ?_ | refine Wc.skip ?_ | refine Wc.condF rfl ?_ | refine Wl.fieldAddr rfl rfl ?_))
    refine Wl.load1 rfl (hb1.cell (o := 0) rfl) ?_
    skip
    refine Wl.buildSliceN (R := one vs) (Pe := NoB) (xs := [S]) (us := [vs S]) goodVs rfl rfl ⟨rfl, rfl, trivial⟩ (by simp) (by simp) fun v2 W2 o2 n2 s2 e2 => ?_
    (repeat' (first | refine Wl.assignE (by conv => { lhs; whnf }) ?_ | refine Wl.nil ?_ | refine Qseq.normal ?_ | refine Wc.ret ?_))
    have hz := n1.size
    exact Qfn.ret1 rfl rfl ⟨_, rfl, o2.mono goodVs.mo (fun k _ e => by omega) (fun _ _ e => e), New.trans n1 n2⟩
theorem runes_spec {w : World} {s : List UInt8} (hl : s.length ≤ 100000000) :
    Calls Tryz.prog 48 #[vs s, .bool true] w (Ret fun v w' => OwnS (one vs) 9 1 (fun k => w.heap.size ≤ k) NoB w' v ((piecesW s).flatMap showP) ∧ New w w') := by
  refine calls_of_Wc Tryz.func48 rfl Tryz.ntmps48 rfl ?_
  (repeat' (first | refine Wl.moveE (by conv => { lhs; whnf }) ?_ | refine Wl.assignE (by conv => { lhs; whnf }) ?_ | refine Wl.nil ?_ | refine Qseq.normal ?_ | refine Wc.seq ?_ | refine Wc.region ?_))
  refine Wl.call (Pieces_spec hl) rfl ?_
  rintro pv w1 ⟨op, n1⟩
  (repeat' (first | refine Wl.assignE (by conv => { lhs; whnf }) ?_ | refine Wl.nil ?_ | refine Qseq.normal ?_ | refine Wc.seq ?_ | refine Wc.region ?_ | refine Wc.block ?_))
  have hpl := pieces_len s
  have hps := pieces_small s
  obtain ⟨pa, pcap, rfl, hc1, hc2⟩ := op.form
  simp only [maxLen] at hc2
  refine Wc.loop (σ := Nat × Value) (fun x => [(1, .bool true), (5, x.2), (6, .slice pa (piecesW s).length pcap), (7, vi x.1)]) (fun x W => x.1 ≤ (piecesW s).length ∧ OwnS (one vs) 9 1 (fun k => w1.heap.size ≤ k) NoB W x.2 (((piecesW s).take x.1).flatMap showP) ∧ New w1 W) (fun x => (piecesW s).length - x.1) (0, .slice none 0 0) ⟨rfl, rfl, rfl, rfl, trivial⟩ ⟨Nat.zero_le _, OwnS.nil, Chg.refl _ _⟩ ?_
  rintro ⟨i, v⟩ G W ⟨hi, o, n⟩
  dsimp only at hi o
  simp only [upds]
  have opW := op.new (plain_flat _) n
  (repeat' (first | refine Wl.moveE (by conv => { lhs; whnf }) ?_ | refine Wl.assignE (by conv => { lhs; whnf }) ?_ | refine Wl.nil ?_ | refine Wl.lenS rfl ?_ | refine Qseq.normal ?_ | refine Wc.seq ?_ | refine Wc.region ?_ | refine Wc.block ?_ | refine Wc.skip ?_ | refine Wc.exit ?_ | refine Wc.ret ?_ | refine Qseq.exit ?_ | refine Qblk.hit ?_ | refine Qloop.exit ?_ | refine Wc.condT rfl ?_ | refine Wc.condF rfl ?_ | refine Wl.lss rfl rfl (fun _ => ?_) (fun _ => ?_)))
  · obtain ⟨⟨S, r⟩, hp⟩ : ∃ p, (piecesW s)[i]? = some p := ⟨_, List.getElem?_eq_getElem (by omega)⟩
    have hS := hps _ (List.mem_of_getElem? hp)
    dsimp only at hS
    refine Wl.idxAddr (opW.rd goodPc.mo) rfl rfl (by omega) (by rw [Int.toNat_natCast]; exact hp) fun bb off cs hcl hR hat => ?_
    obtain rfl : cs = pcC (S, r) := hR
    refine Wl.loadAt hat rfl rfl ?_
    (repeat' (refine Wl.moveE (by conv => { lhs; whnf }) ?_))
    refine Wl.call (shown_spec (S := S) (r := r) (by omega)) rfl ?_
    rintro sv w2 ⟨o2, n2⟩
    have hlen := shown_len (l := (piecesW s).take i) fun q hq => hps q (List.mem_of_mem_take hq)
    rw [List.length_take] at hlen
    have hsl := showP_len (S, r)
    dsimp only at hsl
    have o1 := o.new (plain_one _) n2
    refine Wl.appendAll (R := one vs) goodVs o1 (o2.rd goodVs.mo) (fun y cs hy => hy) rfl rfl (by omega) (by simp only [maxLen]; omega) (by omega) fun v5 W5 o5 c5 lie _ => ?_
    have hnx : ((piecesW s).take (i + 1)).flatMap showP = ((piecesW s).take i).flatMap showP ++ showP (S, r) := by rw [List.take_add_one, hp, List.flatMap_append]; simp
    rw [← hnx] at o5
    have hz := n.size
    have hz2 := n2.size
    have cc : New w1 W5 := (Chg.trans (New.trans n n2).any c5 fun k _ e => e).toNew fun k hk e => by have := (o1.lt e).1; omega
    (repeat' (first | refine Wl.moveE (by conv => { lhs; whnf }) ?_ | refine Wl.assignE (by conv => { lhs; whnf }) ?_ | refine Wl.nil ?_ | refine Qseq.normal ?_ | refine Wc.region ?_ | refine Qblk.normal ?_ | refine Wl.add rfl rfl (by omega) (by omega) ?_))
    exact Qloop.normal (i + 1, v5) ⟨rfl, rfl, rfl, rfl, trivial⟩ ⟨by dsimp only; omega, o5.mono goodVs.mo (fun k _ e => by rcases e with e | e <;> omega) (fun _ _ e => e), cc⟩ (by dsimp only; omega)
  · have hz := n1.size
    rw [List.take_of_length_le (by omega)] at o
    exact Qfn.ret1 rfl rfl ⟨_, rfl, o.mono goodVs.mo (fun k _ e => by omega) (fun _ _ e => e), New.trans n1 n⟩
end Go.Proofs.YtpnpllghabbhlaaGreatDoor

namespace Go.Proofs.YtpnpllghabbhlaaGreatDoor
open Go Wk
open Go.RowKit (Below)
attribute [local irreducible] Go.Calls

theorem lineW_snoc (l : List (List UInt8)) (s : List UInt8) : lineW (l ++ [s]) = if l = [] then wordW s else lineW l ++ 32 :: wordW s := by
  induction l with
  | nil => rfl
  | cons t l ih =>
    cases l with
    | nil => rfl
    | cons u l =>
      rw [if_neg (by simp)] at ih ⊢
      show wordW t ++ 32 :: lineW ((u :: l) ++ [s]) = _
      rw [ih]
      show _ = (wordW t ++ 32 :: lineW (u :: l)) ++ _
      simp
theorem lineW_take {l : List (List UInt8)} {i : Nat} {s : List UInt8} (h : l[i]? = some s) : lineW (l.take (i + 1)) = (if i = 0 then [] else lineW (l.take i) ++ [32]) ++ wordW s := by
  have hi := (List.getElem?_eq_some_iff.1 h).1
  rw [List.take_add_one, h]
  show lineW (l.take i ++ [s]) = _
  rw [lineW_snoc]
  by_cases h0 : i = 0
  · subst h0; rw [if_pos (by simp), if_pos rfl]; rfl
  · have hne : l.take i ≠ [] := fun e => by have := congrArg List.length e; rw [List.length_take, List.length_nil] at this; omega
    rw [if_neg hne, if_neg h0]
    simp
theorem lineW_le (l : List (List UInt8)) : ∀ i, (lineW (l.take i)).length ≤ (lineW l).length := by
  suffices h : ∀ n i, l.length ≤ i + n → (lineW (l.take i)).length ≤ (lineW l).length from fun i => h l.length i (by omega)
  intro n
  induction n with
  | zero => intro i h; rw [List.take_of_length_le (by omega)]; exact Nat.le_refl _
  | succ n ih =>
    intro i h
    refine Nat.le_trans ?_ (ih (i + 1) (by omega))
    rcases Nat.lt_or_ge i l.length with hi | hi
    · rw [lineW_take (List.getElem?_eq_getElem hi), List.length_append]
      split
      · rename_i h0; subst h0; show 0 ≤ _; omega
      · rw [List.length_append]; omega
    · rw [List.take_of_length_le hi, List.take_of_length_le (by omega)]; exact Nat.le_refl _
theorem quoteW_len (s : List UInt8) : (quoteW s).length ≤ 4 * s.length + 2 := by
  have := encS_len s
  unfold quoteW
  rw [List.length_append, List.length_append, List.length_singleton]
  omega
theorem QuoteR_spec {w : World} {s : List UInt8} (hl : s.length ≤ 100000000) : Calls Tryz.prog 32 #[vs s] w (Ret fun r w' => r = vs (quoteW s) ∧ New w w') := by
  have he := encS_len s
  refine calls_of_Wc Tryz.func32 rfl Tryz.ntmps32 rfl ?_
  (repeat' (first | refine Wl.moveE (by conv => { lhs; whnf }) ?_ | refine Wl.assignE (by conv => { lhs; whnf }) ?_ | refine Wl.nil ?_ | refine Qseq.normal ?_ | refine Wc.seq ?_ | refine Wc.region ?_))
  refine Wl.call (runes_spec hl) rfl ?_
  rintro v w1 ⟨o1, n1⟩
  skip
  refine Wl.call (joined_spec (o1.rd goodVs.mo) (by rw [pieces_flat]; omega)) rfl ?_
  rintro _ w2 ⟨rfl, n2⟩
  rw [pieces_flat]
  skip
  refine Wl.sadd (a := [34]) rfl rfl (by simp only [List.length_singleton]; omega) ?_
  refine Wl.sadd (b := [34]) rfl rfl (by simp only [List.length_append, List.length_singleton]; omega) ?_
  (repeat' (first | refine Wl.assignE (by conv => { lhs; whnf }) ?_ | refine Wl.nil ?_ | refine Qseq.normal ?_ | refine Wc.ret ?_))
  exact Qfn.ret1 rfl rfl ⟨_, rfl, rfl, New.trans n1 n2⟩
theorem LineR_spec {Pb : Nat → Prop} {w : World} {v : Value} {l : List (List UInt8)} (h : RdS (one vs) 1 Pb w v l) (hs : ∀ s ∈ l, s.length ≤ 100000000) (hl : (lineW l).length ≤ 1000000000) :
    Calls Tryz.prog 18 #[v] w (Ret fun r w' => r = vs (lineW l) ∧ New w w') := by
  obtain ⟨a, cp, rfl, hc1, hc2⟩ := h.form
  simp only [maxLen] at hc2
  replace h := h.mono (Pb' := fun k => k < w.heap.size) (mono_one _) fun k hk _ => hk
  refine calls_of_Wc Tryz.func18 rfl Tryz.ntmps18 rfl ?_
  (repeat' (first | refine Wl.assignE (by conv => { lhs; whnf }) ?_ | refine Wl.nil ?_ | refine Qseq.normal ?_ | refine Wc.seq ?_ | refine Wc.region ?_ | refine Wc.block ?_))
  refine Wc.loop (σ := Nat × Value) (fun s => [(0, .slice a l.length cp), (3, s.2), (4, vi s.1)]) (fun s W => s.1 ≤ l.length ∧ OwnS (one by8) 5 1 (fun k => w.heap.size ≤ k) NoB W s.2 (lineW (l.take s.1)) ∧ New w W) (fun s => l.length - s.1) (0, .slice none 0 0) ⟨rfl, rfl, rfl, trivial⟩ ⟨Nat.zero_le _, OwnS.nil, Chg.refl _ _⟩ ?_
  rintro ⟨i, b⟩ G W ⟨hi, o, n⟩
  dsimp only at hi o
  simp only [upds]
  refine Wc.seq (Wc.seq ?_)
  (repeat' (first | refine Wl.moveE (by conv => { lhs; whnf }) ?_ | refine Wl.nil ?_ | refine Wl.lenS rfl ?_ | refine Qseq.normal ?_ | refine Wc.region ?_ | refine Wc.skip ?_ | refine Wc.exit ?_ | refine Qseq.exit ?_ | refine Qblk.hit ?_ | refine Qloop.exit ?_ | refine Wc.condT rfl ?_ | refine Wc.condF rfl ?_ | refine Wl.lss rfl rfl (fun _ => ?_) (fun _ => ?_)))
  · obtain ⟨s, hx⟩ : ∃ s, l[i]? = some s := ⟨_, List.getElem?_eq_getElem (by omega)⟩
    have hsl := hs s (List.mem_of_getElem? hx)
    have hle := lineW_le l (i + 1)
    rw [lineW_take hx, List.length_append] at hle
    refine Wc.seq (Wc.block ?_)
    refine Wc.cutR (fun F W' => ∃ b', agrees F [(0, .slice a l.length cp), (3, b'), (4, vi i)] ∧ OwnS (one by8) 5 1 (fun k => w.heap.size ≤ k) NoB W' b' (if i = 0 then [] else lineW (l.take i) ++ [32]) ∧ New w W') ?_ ?_
    · (repeat' (first | refine Wl.moveE (by conv => { lhs; whnf }) ?_ | refine Wl.nil ?_ | refine Qseq.normal ?_ | refine Wc.seq ?_ | refine Wc.region ?_ | refine Wc.skip ?_ | refine Wc.condT rfl ?_ | refine Wc.condF rfl ?_ | refine Wl.gtr rfl rfl (fun _ => ?_) (fun _ => ?_)))
      · rw [if_neg (by omega)] at hle
        rw [List.length_append, List.length_singleton] at hle
        refine Wl.append1 (y := (32 : UInt8)) goodR8 o rfl rfl rfl rfl rfl (by omega) (by omega) (by simp only [maxLen]; omega) (by omega) rfl rfl fun v2 w2 _ o2 c2 lie => ?_
        (repeat' (first | refine Wl.assignE (by conv => { lhs; whnf }) ?_ | refine Wl.nil ?_))
        have hz := n.size
        refine Qm.normal ⟨v2, ⟨rfl, rfl, rfl, trivial⟩, ?_, (Chg.trans n.any c2 fun _ _ e => e).toNew fun k hk e => by have := (o.lt e).1; omega⟩
        rw [if_neg (by omega)]
        exact o2.mono goodR8.mo (fun k _ e => by rcases e with e | e <;> omega) fun _ _ e => e
      · refine Qm.normal ⟨b, ⟨rfl, rfl, rfl, trivial⟩, ?_, n⟩
        obtain rfl : i = 0 := by omega
        exact o
    rintro F W' ⟨b', ag, o', n'⟩
    refine Wc.frame _ ag fun G1 => ?_
    clear ag o n
    simp only [upds]
    have hz := n'.size
    have h' := h.keep (stable_one _) n'.keep
    (repeat' (first | refine Wl.moveE (by conv => { lhs; whnf }) ?_ | refine Wc.seq ?_ | refine Wc.region ?_))
    refine Wl.idxAddr h' rfl rfl (by omega) (by rw [Int.toNat_natCast]; exact hx) fun bb off cs hcl hR hat => ?_
    obtain rfl : cs = [vs s] := hR
    refine Wl.load1 (u := vs s) rfl (hat.get 0 rfl) ?_
    refine Wl.call (plainR_spec hsl) rfl ?_
    rintro _ w2 ⟨rfl, rfl⟩
    by_cases hp : plainW s = true
    · rw [hp]
      have hw : wordW s = s := by unfold wordW; rw [if_pos hp]
      rw [hw] at hle
      (repeat' (first | refine Wl.moveE (by conv => { lhs; whnf }) ?_ | refine Wl.nil ?_ | refine Qseq.normal ?_ | refine Wc.region ?_ | refine Wc.condT rfl ?_))
      refine Wl.idxAddr h' rfl rfl (by omega) (by rw [Int.toNat_natCast]; exact hx) fun bb off cs hcl hR hat => ?_
      obtain rfl : cs = [vs s] := hR
      refine Wl.load1 (u := vs s) rfl (hat.get 0 rfl) ?_
      refine Wl.appendStr o' rfl rfl (by simp only [maxLen]; omega) (by omega) fun v3 W3 o3 c3 lie => ?_
      (repeat' (first | refine Wl.moveE (by conv => { lhs; whnf }) ?_ | refine Wl.assignE (by conv => { lhs; whnf }) ?_ | refine Wl.nil ?_ | refine Qseq.normal ?_ | refine Wc.region ?_ | refine Qblk.normal ?_ | refine Wl.add rfl rfl (by omega) (by omega) ?_))
      refine Qloop.normal (i + 1, v3) ⟨rfl, rfl, rfl, trivial⟩ ⟨by dsimp only; omega, ?_, (Chg.trans n'.any c3 fun _ _ e => e).toNew fun k hk e => by have := (o'.lt e).1; omega⟩ (by dsimp only; omega)
      dsimp only
      rw [lineW_take hx, hw]
      exact o3.mono goodR8.mo (fun k _ e => by rcases e with e | e <;> omega) fun _ _ e => e
    · rw [Bool.not_eq_true] at hp
      rw [hp]
      have hw : wordW s = quoteW s := by unfold wordW; rw [if_neg (by rw [hp]; decide)]
      rw [hw] at hle
      (repeat' (first | refine Wl.moveE (by conv => { lhs; whnf }) ?_ | refine Wl.nil ?_ | refine Qseq.normal ?_ | refine Wc.region ?_ | refine Wc.condF rfl ?_))
      refine Wl.idxAddr h' rfl rfl (by omega) (by rw [Int.toNat_natCast]; exact hx) fun bb off cs hcl hR hat => ?_
      obtain rfl : cs = [vs s] := hR
      refine Wl.load1 (u := vs s) rfl (hat.get 0 rfl) ?_
      refine Wl.call (QuoteR_spec hsl) rfl ?_
      rintro _ w3 ⟨rfl, n3⟩
      skip
      have o4 := o'.new (plain_one _) n3
      have hz3 := n3.size
      refine Wl.appendStr o4 rfl rfl (by simp only [maxLen]; omega) (by omega) fun v3 W3 o3 c3 lie => ?_
      (repeat' (first | refine Wl.moveE (by conv => { lhs; whnf }) ?_ | refine Wl.assignE (by conv => { lhs; whnf }) ?_ | refine Wl.nil ?_ | refine Qseq.normal ?_ | refine Wc.region ?_ | refine Qblk.normal ?_ | refine Wl.add rfl rfl (by omega) (by omega) ?_))
      refine Qloop.normal (i + 1, v3) ⟨rfl, rfl, rfl, trivial⟩ ⟨by dsimp only; omega, ?_, (Chg.trans (New.trans n' n3).any c3 fun _ _ e => e).toNew fun k hk e => by have := (o'.lt e).1; omega⟩ (by dsimp only; omega)
      dsimp only
      rw [lineW_take hx, hw]
      exact o3.mono goodR8.mo (fun k _ e => by rcases e with e | e <;> omega) fun _ _ e => e
  · rw [List.take_of_length_le (by omega)] at o
    (repeat' (first | refine Wl.moveE (by conv => { lhs; whnf }) ?_ | refine Wc.seq ?_ | refine Wc.region ?_))
    refine Wl.bytesStr (o.rd goodR8.mo) rfl ?_
    (repeat' (first | refine Wl.assignE (by conv => { lhs; whnf }) ?_ | refine Wl.nil ?_ | refine Qseq.normal ?_ | refine Wc.ret ?_))
    exact Qfn.ret1 rfl rfl ⟨_, rfl, rfl, n⟩
end Go.Proofs.YtpnpllghabbhlaaGreatDoor

namespace Go.Proofs.YtpnpllghabbhlaaGreatDoor.Wk
open Go Go.RowKit

section
variable {P : Program} {n : Nat} {ds : List Deferred} {Q : Po} {F : Fr} {w w' : World} {ops rest : List Oper} {d : Nat} {ty : TypeId} {pos : String} {aft : Array Edge}
theorem Wl.rangeS {x : Operand} {t : TypeId} {s : List UInt8} [ht : Und P t .string] (hx : ev n F x = vs s) (c : ∀ w', w'.heap[w.heap.size]? = some (.stringIter ⟨s.toArray⟩ 0) → New w w' → w'.heap.size = w.heap.size + 1 → Wl P n ds Q ops rest (upd F d (.pointer (some ⟨w.heap.size, 0, none⟩))) w') :
    Wl P n ds Q ops (⟨some d, .range t x, ty, pos, aft, none⟩ :: rest) F w := by
  refine Wl.val (w' := w.alloc (.stringIter ⟨s.toArray⟩ 0)) (v := .pointer (some ⟨w.heap.size, 0, none⟩)) ?_ (c _ (heap_alloc_new w _) (Chg.alloc _ _ _) (by simp))
  simp [execOp, hx, Instr.range, run_underlying ht.h]
theorem Wl.nextS {x : Operand} {k q : Nat} {s : List UInt8} (hx : ev n F x = .pointer (some ⟨k, 0, none⟩)) (hk : w.heap[k]? = some (.stringIter ⟨s.toArray⟩ q)) (hq : q < s.length)
    (c : ∀ w', w'.heap[k]? = some (.stringIter ⟨s.toArray⟩ (q + (Utf8.decode ⟨s.toArray⟩ q).2)) → Chg (fun b => b = k) w w' → Wl P n ds Q ops rest (upd F d (.tuple #[.bool true, vi q, .int .i32 (Utf8.decode ⟨s.toArray⟩ q).1])) w') : Wl P n ds Q ops (⟨some d, .next x true, ty, pos, aft, none⟩ :: rest) F w := by
  have hr := Go.Lib.run_next_any_at (P := P) w k ⟨s.toArray⟩ q ty hk (by simpa [ByteArray.size] using hq)
  refine Wl.val (w' := w.iterAt k ⟨s.toArray⟩ (q + (Utf8.decode ⟨s.toArray⟩ q).2)) (v := .tuple #[.bool true, vi q, .int .i32 (Utf8.decode ⟨s.toArray⟩ q).1]) ?_ (c _ (Go.Lib.iterAt_heap w k _ q _ hk) ⟨rfl, rfl, rfl, by simp [World.iterAt], fun j _ hj => Go.Lib.iterAt_other w k j _ _ hj⟩)
  simp only [execOp, hx, Sem.run_bind, hr, Result.andThen_ok, Sem.run_pure]
theorem Wl.nextE {x : Operand} {k q : Nat} {s : List UInt8} (hx : ev n F x = .pointer (some ⟨k, 0, none⟩)) (hk : w.heap[k]? = some (.stringIter ⟨s.toArray⟩ q)) (hq : s.length ≤ q)
    (c : Wl P n ds Q ops rest (upd F d (.tuple #[.bool false])) w) : Wl P n ds Q ops (⟨some d, .next x true, ty, pos, aft, none⟩ :: rest) F w := by
  have hr := Go.Lib.run_next_end_at (P := P) w k ⟨s.toArray⟩ q ty hk (by simp [ByteArray.size]; omega)
  refine Wl.val (w' := w) (v := .tuple #[.bool false]) ?_ c
  simp only [execOp, hx, Sem.run_bind, hr, Result.andThen_ok, Sem.run_pure]
/-- string(r). -/
theorem Wl.runeStr {x : Operand} {t t' : TypeId} {k : IntKind} {r : Int} {u : TypeDesc} [ht : Und P t u] [ht' : Und P t' .string] (hu : ∃ k, u = .int k) (hx : ev n F x = .int k r)
    (c : Wl P n ds Q ops rest (upd F d (vs (Utf8.encode r).data.toList)) w) : Wl P n ds Q ops (⟨some d, .convert t t' x, ty, pos, aft, none⟩ :: rest) F w := by
  obtain ⟨k', rfl⟩ := hu
  refine Wl.val ?_ c
  have : (⟨(Utf8.encode r).data.toList.toArray⟩ : ByteArray) = Utf8.encode r := by
    apply ByteArray.ext; simp
  simp only [execOp, hx, Sem.run_bind, convert, run_underlying ht.h, run_underlying ht'.h, Result.andThen_ok, Conv.intToString, Sem.run_pure, vs, this]
end
end Go.Proofs.YtpnpllghabbhlaaGreatDoor.Wk

namespace Go.Proofs.YtpnpllghabbhlaaGreatDoor
open Go Wk
open Go.RowKit (Below)
attribute [local irreducible] Go.Calls

theorem HasPrefix_spec {w : World} {a b : List UInt8} : Calls Tryz.prog 83 #[vs a, vs b] w (Ret fun r w' => r = .bool (Lib.hasPrefix a b) ∧ w = w') := by
  refine (Tryz.strings_HasPrefix ⟨a.toArray⟩ ⟨b.toArray⟩ w).mono ?_
  rintro e w' ⟨rfl, rfl⟩
  exact ⟨_, rfl, by simp, rfl⟩
theorem fffd_prefix {t : List UInt8} (h : (decW t).1 = 65533) : Lib.hasPrefix t [239, 191, 189] = decide ((decW t).2 ≠ 1) := by
  unfold Lib.hasPrefix
  by_cases hp : [239, 191, 189].isPrefixOf t = true
  · rw [hp]
    obtain ⟨u, rfl⟩ := List.isPrefixOf_iff_prefix.1 hp
    show _ = decide ((decW (239 :: 191 :: 189 :: u)).2 ≠ 1)
    rw [decW_fffd]; rfl
  · rcases decW_err h with e | ⟨e, h0, h1, h2, h3⟩
    · rw [Bool.eq_false_iff.2 hp, e]; rfl
    · refine absurd ?_ hp
      match t, h3 with
      | a :: b :: c :: u, _ =>
        have e0 : gB (a :: b :: c :: u) 0 = a.toNat := rfl
        have e1 : gB (a :: b :: c :: u) 1 = b.toNat := rfl
        have e2 : gB (a :: b :: c :: u) 2 = c.toNat := rfl
        obtain rfl : a = 239 := UInt8.toNat.inj (by rw [← e0, h0]; rfl)
        obtain rfl : b = 191 := UInt8.toNat.inj (by rw [← e1, h1]; rfl)
        obtain rfl : c = 189 := UInt8.toNat.inj (by rw [← e2, h2]; rfl)
        rfl
theorem RuneLen_spec {w : World} {r : Nat} (h1 : Fact (r ≤ 1114111)) (h2 : Fact (r < 55296 ∨ 57343 < r)) : Calls Tryz.prog 84 #[.int .i32 r] w (Ret fun v w' => v = vi (runeLen r) ∧ w = w') := by
  refine (Tryz.utf8_RuneLen (r : Int) w).mono ?_
  rintro e w' ⟨rfl, rfl⟩
  refine ⟨_, rfl, ?_, rfl⟩
  have h1 := h1.h
  have h2 := h2.h
  unfold Lib.runeLen runeLen
  congr 1
  repeat' split
  all_goals omega
theorem put_spec {Pb : Nat → Prop} {w : World} {b : Value} {l s : List UInt8} {i : Nat} (o : OwnS (one by8) 5 1 Pb NoB w b l) (hs : s.length ≤ 100000000) (hl : l.length ≤ 1000000000) (hi : i < s.length) :
    Calls Tryz.prog 69 #[b, vs s, vi i, .int .i32 ((decW (s.drop i)).1 : Nat), .int .u8 34] w (Ret fun v w' => OwnS (one by8) 5 1 (fun k => Pb k ∨ w.heap.size ≤ k) NoB w' v (l ++ encT (pieceT (s.drop i))) ∧ Chg (fun k => b.ownBlock = some k) w w') := by
  have hne : s.drop i ≠ [] := fun e => by have := congrArg List.length e; rw [List.length_drop, List.length_nil] at this; omega
  have hw := decW_w hne
  rw [List.length_drop] at hw
  refine calls_of_Wc Tryz.func69 rfl Tryz.ntmps69 rfl ?_
  refine Wc.seq ?_
  (repeat' (first | refine Wl.assignE (by conv => { lhs; whnf }) ?_ | refine Wl.nil ?_ | refine Qseq.normal ?_ | refine Wc.region ?_))
  refine Wc.seq ?_
  (repeat' (first | refine Wl.assignE (by conv => { lhs; whnf }) ?_ | refine Wl.nil ?_ | refine Qseq.normal ?_ | refine Wc.region ?_))
  refine Wc.cutR (fun F W => ∃ (R : Int) (N : Nat), agrees F [(0, b), (1, vs s), (2, vi i), (3, .int .i32 R), (4, .int .u8 34), (11, vi N)] ∧ Fact (pieceW (s.drop i) = ((s.drop i).take N, R)) ∧ N + i ≤ s.length ∧ N ≤ 4 ∧ w = W) ?_ ?_
  · refine Wc.cutR (fun F W => agrees F [(0, b), (1, vs s), (2, vi i), (3, .int .i32 ((decW (s.drop i)).1 : Nat)), (4, .int .u8 34), (11, vi 1), (21, .bool (decide (decW (s.drop i) ≠ (65533, 1))))] ∧ w = W) ?_ ?_
    · refine Wc.region ?_
      (repeat' (refine Wl.moveE (by conv => { lhs; whnf }) ?_))
      refine Wl.neq rfl rfl (fun h => ?_) (fun h => ?_)
      · have hd : decide (decW (s.drop i) ≠ (65533, 1)) = true := decide_eq_true fun e => h (by rw [e]; rfl)
        rw [hd]
        replace h := Fact.mk h
        (repeat' (first | refine Wl.moveE (by conv => { lhs; whnf }) ?_ | refine Wl.nil ?_ | refine Wl.guardN rfl rfl ?_ | refine Wl.pickTE rfl (by conv => { lhs; whnf }) ?_))
        exact Qm.normal ⟨⟨rfl, rfl, rfl, rfl, rfl, rfl, rfl, trivial⟩, rfl⟩
      · have hd : decide (decW (s.drop i) ≠ (65533, 1)) = Lib.hasPrefix (s.drop i) [239, 191, 189] := by
          rw [fffd_prefix (by omega)]
          refine decide_eq_decide.2 ⟨fun e e1 => e (Prod.ext (by dsimp only; omega) e1), fun e e1 => e (by rw [e1])⟩
        rw [hd]
        clear hd
        replace h := Fact.mk h
        (repeat' (first | refine Wl.moveE (by conv => { lhs; whnf }) ?_ | refine Wl.guardY rfl rfl ?_))
        refine Wl.strFrom rfl rfl (by omega) (by omega) ?_
        rw [Int.toNat_natCast]
        (repeat' (refine Wl.guardY rfl rfl ?_))
        refine Wl.call (HasPrefix_spec (b := [239, 191, 189])) rfl ?_
        rintro _ w1 ⟨rfl, rfl⟩
        generalize Lib.hasPrefix (s.drop i) [239, 191, 189] = bb
        cases bb
        · (repeat' (first | refine Wl.nil ?_ | refine Wl.pickFE rfl (by conv => { lhs; whnf }) ?_))
          exact Qm.normal ⟨⟨rfl, rfl, rfl, rfl, rfl, rfl, rfl, trivial⟩, rfl⟩
        · (repeat' (first | refine Wl.nil ?_ | refine Wl.pickFE rfl (by conv => { lhs; whnf }) ?_))
          exact Qm.normal ⟨⟨rfl, rfl, rfl, rfl, rfl, rfl, rfl, trivial⟩, rfl⟩
    rintro F _ ⟨ag, rfl⟩
    refine Wc.frame _ ag fun G => ?_
    clear ag
    simp only [upds]
    by_cases hb : decW (s.drop i) = (65533, 1)
    · rw [decide_eq_false (fun e => e hb)]
      have hp : pieceW (s.drop i) = ((s.drop i).take 1, -1) := by unfold pieceW; rw [if_pos hb]
      (repeat' (first | refine Wl.assignE (by conv => { lhs; whnf }) ?_ | refine Wl.nil ?_ | refine Wc.region ?_ | refine Wc.condF rfl ?_))
      exact Qm.normal ⟨-1, 1, ⟨rfl, rfl, rfl, rfl, rfl, rfl, trivial⟩, ⟨hp⟩, by omega, by omega, rfl⟩
    · rw [decide_eq_true (show decW (s.drop i) ≠ (65533, 1) from hb)]
      have hp : pieceW (s.drop i) = ((s.drop i).take (decW (s.drop i)).2, (((decW (s.drop i)).1 : Nat) : Int)) := by unfold pieceW; rw [if_neg hb]
      obtain ⟨e1, e2, e3⟩ := decW_len hb
      replace e1 := Fact.mk e1
      replace hp := Fact.mk hp
      (repeat' (first | refine Wl.moveE (by conv => { lhs; whnf }) ?_ | refine Wc.region ?_ | refine Wc.condT rfl ?_))
      refine Wl.call (RuneLen_spec ⟨e2⟩ ⟨e3⟩) rfl ?_
      rintro _ w1 ⟨rfl, rfl⟩
      clear e2 e3
      (repeat' (first | refine Wl.assignE (by conv => { lhs; whnf }) ?_ | refine Wl.nil ?_))
      exact Qm.normal ⟨((decW (s.drop i)).1 : Nat), runeLen (decW (s.drop i)).1, ⟨rfl, rfl, rfl, rfl, rfl, rfl, trivial⟩, ⟨by rw [hp.h, e1.h]⟩, by rw [← e1.h]; omega, by rw [← e1.h]; omega, rfl⟩
  rintro F _ ⟨R, N, ag, hp, hN, hN4, rfl⟩
  refine Wc.frame _ ag fun G => ?_
  clear ag
  simp only [upds]
  rw [← showP_flat hne, hp.h]
  have h92 : R = 92 → (s.drop i).take N = [92] := fun e => pieceW_ascii hne hp.h (c := 92) e (by decide)
  have h34 : R = 34 → (s.drop i).take N = [34] := fun e => pieceW_ascii hne hp.h (c := 34) e (by decide)
  clear hp hne hw
  refine Wc.seq (Wc.block ?_)
  refine Wc.cutR (fun F W => agrees F [(0, b), (1, vs s), (2, vi i), (3, .int .i32 R), (4, .int .u8 34), (11, vi N), (32, .bool (decide (ctlI R)))] ∧ w = W) ?_ ?_
  · (repeat' (first | refine Wl.moveE (by conv => { lhs; whnf }) ?_ | refine Wl.assignE (by conv => { lhs; whnf }) ?_ | refine Wl.nil ?_ | refine Wl.guardY rfl rfl ?_ | refine Wl.guardN rfl rfl ?_ | refine Wl.guardU rfl ?_ | refine Wl.pickTE rfl (by conv => { lhs; whnf }) ?_ | refine Wl.pickFE rfl (by conv => { lhs; whnf }) ?_ | refine Wc.region ?_ | refine Wl.lss rfl rfl (fun _ => ?_) (fun _ => ?_) | refine Wl.leq rfl rfl (fun _ => ?_) (fun _ => ?_) | refine Wl.geq rfl rfl (fun _ => ?_) (fun _ => ?_)))
    · exact Qm.normal ⟨⟨rfl, rfl, rfl, rfl, rfl, rfl, by rw [decide_eq_true (by unfold ctlI; omega)]; rfl, trivial⟩, rfl⟩
    · exact Qm.normal ⟨⟨rfl, rfl, rfl, rfl, rfl, rfl, by rw [decide_eq_true (by unfold ctlI; omega)]; rfl, trivial⟩, rfl⟩
    · exact Qm.normal ⟨⟨rfl, rfl, rfl, rfl, rfl, rfl, by rw [decide_eq_false (by unfold ctlI; omega)]; rfl, trivial⟩, rfl⟩
    · exact Qm.normal ⟨⟨rfl, rfl, rfl, rfl, rfl, rfl, by rw [decide_eq_false (by unfold ctlI; omega)]; rfl, trivial⟩, rfl⟩
  rintro F _ ⟨ag, rfl⟩
  refine Wc.frame _ ag fun G => ?_
  clear ag
  simp only [upds]
  have hsub : (s.take ((i : Int) + (N : Int)).toNat).drop (i : Int).toNat = (s.drop i).take N := by rw [Int.toNat_natCast, List.drop_take]; congr 1; omega
  have hT : ((s.drop i).take N).length ≤ 4 := by rw [List.length_take]; omega
  by_cases hc : ctlI R
  · rw [decide_eq_true hc]
    have hsh : (showP ((s.drop i).take N, R)).flatten = encT (((s.drop i).take N).map .hex) := by unfold showP; rw [if_pos hc]; exact hexL_flat _
    rw [hsh]
    clear hsh
    replace hc := Fact.mk hc
    (repeat' (first | refine Wl.moveE (by conv => { lhs; whnf }) ?_ | refine Wc.seq ?_ | refine Wc.region ?_ | refine Wc.condT rfl ?_ | refine Wl.add rfl rfl (by omega) (by omega) ?_))
    refine Wl.strBoth rfl rfl rfl (by omega) (by omega) (by omega) ?_
    rw [hsub]
    generalize (s.drop i).take N = T at hT ⊢
    refine Wl.strBytes rfl (by simp only [maxLen]; omega) fun w1 cap C fr _ _ _ n1 _ hr => ?_
    (repeat' (first | refine Wl.moveE (by conv => { lhs; whnf }) ?_ | refine Wl.nil ?_ | refine Wl.lenS rfl ?_ | refine Qseq.normal ?_ | refine Wc.block ?_))
    have hbo : ∀ k, b.ownBlock = some k → k < w.heap.size := fun k hk => (o.lt hk).2
    have hz1 := n1.size
    refine Wc.loop (σ := Nat × Value) (fun x => [(0, x.2), (49, .slice (some ⟨w.heap.size, 0, none⟩) T.length cap), (50, vi T.length), (51, vi x.1)]) (fun x W => x.1 ≤ T.length ∧ OwnS (one by8) 5 1 (fun k => Pb k ∨ w1.heap.size ≤ k) NoB W x.2 (l ++ encT ((T.take x.1).map .hex)) ∧ Chg (fun k => b.ownBlock = some k) w1 W ∧ (x.2.ownBlock = b.ownBlock ∨ ∀ k, x.2.ownBlock = some k → w1.heap.size ≤ k)) (fun x => T.length - x.1) (0, b) ⟨rfl, rfl, rfl, rfl, trivial⟩ ⟨Nat.zero_le _, by simpa [encT] using (o.new (plain_one _) n1).mono goodR8.mo (fun k _ e => .inl e) fun _ _ e => e, Chg.refl _ _, .inl rfl⟩ ?_
    rintro ⟨j, v⟩ G W ⟨hj, oj, cj, lj⟩
    dsimp only at hj oj lj
    simp only [upds]
    have hzW := cj.size
    have hvo : ∀ k, v.ownBlock = some k → k < W.heap.size := fun k hk => (oj.lt hk).2
    (repeat' (first | refine Wl.moveE (by conv => { lhs; whnf }) ?_ | refine Wl.assignE (by conv => { lhs; whnf }) ?_ | refine Wl.nil ?_ | refine Qseq.normal ?_ | refine Wc.seq ?_ | refine Wc.region ?_ | refine Wc.block ?_ | refine Wc.skip ?_ | refine Wc.exit ?_ | refine Wc.ret ?_ | refine Qseq.exit ?_ | refine Qblk.normal ?_ | refine Qblk.hit ?_ | refine Qloop.exit ?_ | refine Wc.condT rfl ?_ | refine Wc.condF rfl ?_ | refine Wl.lss rfl rfl (fun _ => ?_) (fun _ => ?_)))
    · obtain ⟨c, hcc⟩ := get_byte T (k := j) (by omega)
      have hc8 := c.toNat_lt
      have hrW := hr.keep (stable_one _) (cj.keep fun k _ hk e => by have := hbo k e; omega)
      refine Wl.idxAddrV hrW rfl rfl (by omega) (by rw [Int.toNat_natCast]; exact hcc) fun bb off hcell => ?_
      refine Wl.load1 rfl hcell ?_
      (repeat' (first | refine Wl.assignE (by conv => { lhs; whnf }) ?_ | refine Wl.nil ?_ | refine Qseq.normal ?_))
      have hlen := encT_len ((T.take j).map .hex)
      rw [List.length_map, List.length_take] at hlen
      refine Wc.regionT rfl (by kernel_rfl) (fun w' => Chg (fun k => v.ownBlock = some k) W w') (Chg.drew _ _) ?_
      intro W1 n2
      (repeat' (refine Wt.quiet rfl (Wq.moveE (by conv => { lhs; whnf }) (Wq.nil ?_))))
      refine Wt.quiet rfl (Wq.shrW rfl rfl (by decide) (Wq.nil ?_))
      rw [show (c.toNat : Int).fdiv (2 ^ (min (4 : Int).toNat IntKind.u8.bits)) = ((c.toNat / 16 : Nat) : Int) by
        rw [show (2 : Int) ^ (min (4 : Int).toNat IntKind.u8.bits) = 16 by decide, Int.fdiv_eq_ediv_of_nonneg _ (by omega)]; rfl]
      refine Wt.quiet rfl (Wq.idxStr (l := hexS) rfl rfl (by omega) (by rw [Int.toNat_natCast]; exact hexS_get (by omega)) (Wq.nil ?_))
      (repeat' (refine Wt.quiet rfl (Wq.moveE (by conv => { lhs; whnf }) (Wq.nil ?_))))
      refine Wt.quiet rfl (Wq.andM (k := .u8) c.toNat 4 rfl rfl rfl hc8 (by decide) rfl rfl (Wq.nil ?_))
      refine Wt.quiet rfl (Wq.idxStr (l := hexS) rfl rfl (by omega) (by rw [Int.toNat_natCast]; exact hexS_get (Nat.mod_lt _ (by decide))) (Wq.nil ?_))
      refine Wt.chain rfl (Wl.buildSliceN (R := one by8) (Pe := NoB) (xs := [92, 120, hexd (c.toNat / 16), hexd (c.toNat % 16)]) (us := [by8 92, by8 120, by8 (hexd (c.toNat / 16)), by8 (hexd (c.toNat % 16))]) goodR8 rfl rfl ⟨rfl, rfl, rfl, rfl, rfl, rfl, rfl, rfl, trivial⟩ (by simp) (by simp) fun v2 W2 o2 n2' s2 e2 => ?_)
      have n12 := New.trans n2 n2'
      have hz12 := n12.size
      refine Wl.nil ⟨rfl, n12.any, ?_⟩
      refine Wt.chain rfl (Wl.appendAll (R := one by8) goodR8 (oj.new (plain_one _) n12) (o2.rd goodR8.mo) (fun y cs hy => hy) rfl rfl (by omega) (by simp only [maxLen, List.length_append, List.length_cons, List.length_nil]; omega) (by simp only [List.length_append, List.length_cons, List.length_nil]; omega) fun v5 W5 o5 c5 lie _ => ?_)
      have c15 : Chg (fun k => v.ownBlock = some k) W W5 := Chg.trans n12.any c5 fun _ _ e => e
      refine Wl.nil ⟨rfl, c15, ?_⟩
      have hnx : l ++ encT ((T.take (j + 1)).map .hex) = (l ++ encT ((T.take j).map .hex)) ++ [92, 120, hexd (c.toNat / 16), hexd (c.toNat % 16)] := by
        rw [List.take_add_one, hcc]
        unfold encT
        rw [List.map_append, List.flatMap_append, List.append_assoc]; rfl
      rw [← hnx] at o5
      (repeat' (first | refine Wt.nil ?_ | refine Wt.quiet rfl (Wq.assignE (by conv => { lhs; whnf }) (Wq.nil ?_))))
      (repeat' (first | refine Wl.moveE (by conv => { lhs; whnf }) ?_ | refine Wl.nil ?_ | refine Qseq.normal ?_ | refine Wc.region ?_ | refine Qblk.normal ?_ | refine Wl.add rfl rfl (by omega) (by omega) ?_))
      refine Qloop.normal (j + 1, v5) ⟨rfl, rfl, rfl, rfl, trivial⟩ ⟨by dsimp only; omega, o5.mono goodR8.mo (fun k _ e => by rcases e with e | e; exact e; right; omega) (fun _ _ e => e), Chg.trans cj c15 fun k hk e => ?_, ?_⟩ (by dsimp only; omega)
      · rcases lj with h | h
        · rw [← h]; exact e
        · have := h k e; omega
      · dsimp only
        rcases lie with h | h
        · rcases lj with h' | h'
          · exact .inl (h.trans h')
          · exact .inr fun k hk => h' k (h ▸ hk)
        · exact .inr fun k hk => by have := h k hk; omega
    · rw [List.take_of_length_le (by omega)] at oj
      exact Qfn.ret1 rfl rfl ⟨_, rfl, oj.mono goodR8.mo (fun k _ e => by rcases e with e | e; exact .inl e; right; omega) (fun _ _ e => e), Chg.trans n1.any cj fun _ _ e => e⟩
  · rw [decide_eq_false hc]
    have hsh : (showP ((s.drop i).take N, R)).flatten = if R = 92 ∨ R = 34 then 92 :: (s.drop i).take N else (s.drop i).take N := by
      unfold showP; rw [if_neg hc]; dsimp only; split <;> simp
    rw [hsh]
    clear hsh
    replace hc := Fact.mk hc
    (repeat' (first | refine Wl.moveE (by conv => { lhs; whnf }) ?_ | refine Wc.seq ?_ | refine Wc.region ?_ | refine Wc.condF rfl ?_))
    refine Wl.eql rfl rfl (fun e => ?_) (fun e => ?_)
    · subst e
      rw [if_pos (.inl rfl), h92 rfl]
      (repeat' (first | refine Wl.moveE (by conv => { lhs; whnf }) ?_ | refine Wl.assignE (by conv => { lhs; whnf }) ?_ | refine Wl.nil ?_ | refine Wl.guardN rfl rfl ?_ | refine Wl.pickTE rfl (by conv => { lhs; whnf }) ?_ | refine Qseq.normal ?_ | refine Wc.region ?_ | refine Wc.condT rfl ?_))
      refine Wl.convI rfl ?_
      refine Wl.buildSliceN (R := one by8) (Pe := NoB) (xs := [92, 92]) (us := [by8 92, by8 92]) goodR8 rfl rfl ⟨rfl, rfl, rfl, rfl, trivial⟩ (by simp) (by simp) fun v2 W2 o2 n2 s2 e2 => ?_
      have hz2 := n2.size
      refine Wl.appendAll (R := one by8) goodR8 (o.new (plain_one _) n2) (o2.rd goodR8.mo) (fun y cs hy => hy) rfl rfl (by omega) (by simp only [maxLen, List.length_cons, List.length_nil]; omega) (by simp only [List.length_cons, List.length_nil]; omega) fun v5 W5 o5 c5 lie _ => ?_
      (repeat' (first | refine Wl.moveE (by conv => { lhs; whnf }) ?_ | refine Wl.assignE (by conv => { lhs; whnf }) ?_ | refine Wl.nil ?_ | refine Qseq.normal ?_ | refine Wc.seq ?_ | refine Wc.region ?_ | refine Wc.ret ?_ | refine Qblk.normal ?_))
      exact Qfn.ret1 rfl rfl ⟨_, rfl, o5.mono goodR8.mo (fun k _ e => by rcases e with e | e; exact .inl e; right; omega) (fun _ _ e => e), Chg.trans n2.any c5 fun _ _ e => e⟩
    · (repeat' (first | refine Wl.moveE (by conv => { lhs; whnf }) ?_ | refine Wl.guardY rfl rfl ?_))
      refine Wl.convI rfl ?_
      rw [show IntKind.i32.wrap 34 = 34 by decide]
      (repeat' (refine Wl.guardY rfl rfl ?_))
      refine Wl.eql rfl rfl (fun e' => ?_) (fun e' => ?_)
      · subst e'
        rw [if_pos (.inr rfl), h34 rfl]
        (repeat' (first | refine Wl.moveE (by conv => { lhs; whnf }) ?_ | refine Wl.assignE (by conv => { lhs; whnf }) ?_ | refine Wl.nil ?_ | refine Wl.pickFE rfl (by conv => { lhs; whnf }) ?_ | refine Qseq.normal ?_ | refine Wc.region ?_ | refine Wc.condT rfl ?_))
        refine Wl.convI rfl ?_
        refine Wl.buildSliceN (R := one by8) (Pe := NoB) (xs := [92, 34]) (us := [by8 92, by8 34]) goodR8 rfl rfl ⟨rfl, rfl, rfl, rfl, trivial⟩ (by simp) (by simp) fun v2 W2 o2 n2 s2 e2 => ?_
        have hz2 := n2.size
        refine Wl.appendAll (R := one by8) goodR8 (o.new (plain_one _) n2) (o2.rd goodR8.mo) (fun y cs hy => hy) rfl rfl (by omega) (by simp only [maxLen, List.length_cons, List.length_nil]; omega) (by simp only [List.length_cons, List.length_nil]; omega) fun v5 W5 o5 c5 lie _ => ?_
        (repeat' (first | refine Wl.moveE (by conv => { lhs; whnf }) ?_ | refine Wl.assignE (by conv => { lhs; whnf }) ?_ | refine Wl.nil ?_ | refine Qseq.normal ?_ | refine Wc.seq ?_ | refine Wc.region ?_ | refine Wc.ret ?_ | refine Qblk.normal ?_))
        exact Qfn.ret1 rfl rfl ⟨_, rfl, o5.mono goodR8.mo (fun k _ e => by rcases e with e | e; exact .inl e; right; omega) (fun _ _ e => e), Chg.trans n2.any c5 fun _ _ e => e⟩
      · rw [if_neg (fun q => q.elim e e')]
        clear h92 h34
        replace e := Fact.mk e
        replace e' := Fact.mk e'
        (repeat' (first | refine Wl.moveE (by conv => { lhs; whnf }) ?_ | refine Wl.assignE (by conv => { lhs; whnf }) ?_ | refine Wl.nil ?_ | refine Wl.pickFE rfl (by conv => { lhs; whnf }) ?_ | refine Qseq.normal ?_ | refine Wc.region ?_ | refine Wc.condF rfl ?_ | refine Wl.add rfl rfl (by omega) (by omega) ?_))
        refine Wl.strBoth rfl rfl rfl (by omega) (by omega) (by omega) ?_
        rw [hsub]
        refine Wl.appendStr o rfl rfl (by simp only [maxLen]; omega) (by omega) fun v3 W3 o3 c3 lie => ?_
        (repeat' (first | refine Wl.moveE (by conv => { lhs; whnf }) ?_ | refine Wl.assignE (by conv => { lhs; whnf }) ?_ | refine Wl.nil ?_ | refine Qseq.normal ?_ | refine Wc.seq ?_ | refine Wc.region ?_ | refine Wc.ret ?_ | refine Qblk.normal ?_))
        exact Qfn.ret1 rfl rfl ⟨_, rfl, o3, c3⟩
end Go.Proofs.YtpnpllghabbhlaaGreatDoor

namespace Go.Proofs.YtpnpllghabbhlaaGreatDoor
open Go Wk
open Go.RowKit (Below)

/-- Block b is a builder that holds the bytes l; its own blocks are in Pb. -/
def IsB (Pb : Nat → Prop) (w : World) (b : Nat) (l : List UInt8) : Prop :=
  Pb b ∧ ∃ p v, Bk w b 62 [p, v] ∧ (p = .pointer none ∨ p = .pointer (some ⟨b, 0, none⟩)) ∧ OwnS (one by8) 5 1 Pb (fun _ => False) w v l ∧ v.ownBlock ≠ some b
theorem IsB.keep {Pb : Nat → Prop} {w w' : World} {b : Nat} {l : List UInt8} (h : IsB Pb w b l) (hk : Keep Pb w w') : IsB Pb w' b l := by
  obtain ⟨hb, p, v, ho, hp, hv, hn⟩ := h
  exact ⟨hb, p, v, ho.keep hk hb, hp, hv.keep goodR8.st hk (fun b hb => hb.elim), hn⟩
theorem copyCheck_spec {w : World} {b : Nat} {p v : Value} (h : Bk w b 62 [p, v]) (hp : p = .pointer none ∨ p = .pointer (some ⟨b, 0, none⟩)) :
    Calls Tryz.prog 49 #[.pointer (some ⟨b, 0, none⟩)] w (Ret fun r w' => r = .tuple #[] ∧ Bk w' b 62 [.pointer (some ⟨b, 0, none⟩), v] ∧ Chg (fun k => k = b) w w') := by
  have hshp := Bk.shape h
  obtain ⟨i, hi, hsz, _⟩ := (inferInstance : ElT Tryz.prog 62 _ _ _ _).inf
  refine calls_of_Wc (n := 20) Tryz.func49 rfl rfl rfl ?_
  rcases hp with rfl | rfl
  · (repeat' (first | refine Wl.moveE (by conv => { lhs; whnf }) ?_ | refine Wc.seq ?_ | refine Wc.region ?_ | refine Wl.nilP rfl ?_ | refine Wl.fieldAddr rfl rfl ?_))
    refine Wl.load1 rfl (h.cell (o := 0) rfl) ?_
    skip
    refine Wl.peqNil rfl rfl ?_
    (repeat' (first | refine Wl.moveE (by conv => { lhs; whnf }) ?_ | refine Wl.nil ?_ | refine Qseq.normal ?_ | refine Wc.region ?_ | refine Wc.condT rfl ?_))
    have r1 := Lib.run_to_unsafe (P := Tryz.prog) w ⟨b, 0, none⟩ Tryz.underlying60 Tryz.underlying96 hi (by rw [hsz]; decide) hshp (show 0 < 2 by omega)
    refine Wl.convR rfl r1 ?_
    have r2 : (callFunc 68 #[.pointer (some ⟨b, 0, none⟩)]).run Tryz.prog w = .ok (.value (.pointer (some ⟨b, 0, none⟩))) w := by
      rw [run_callFunc_extern Tryz.func68 (by kernel_rfl) (by kernel_rfl) (by kernel_rfl) (e := Extern.AbiNoEscape.same) (by kernel_rfl)]
      rw [Lib.run_noEscape]; rfl
    refine Wl.extern (vs := [.pointer (some ⟨b, 0, none⟩)]) r2 rfl ?_
    have r3 := Lib.run_from_unsafe (P := Tryz.prog) w ⟨b, 0, none⟩ Tryz.underlying96 Tryz.underlying60 hi hshp (by kernel_rfl)
    refine Wl.convR rfl r3 ?_
    (repeat' (first | refine Wl.nilP rfl ?_ | refine Wl.fieldAddr rfl rfl ?_))
    refine Wl.store1 h rfl (by simp) rfl rfl fun w1 h1 hc1 => ?_
    (repeat' (refine Wl.nil ?_))
    exact Qfn.end0 rfl ⟨_, rfl, rfl, h1, hc1⟩
  · (repeat' (first | refine Wl.moveE (by conv => { lhs; whnf }) ?_ | refine Wc.seq ?_ | refine Wc.region ?_ | refine Wl.nilP rfl ?_ | refine Wl.fieldAddr rfl rfl ?_))
    refine Wl.load1 rfl (h.cell (o := 0) rfl) ?_
    skip
    refine Wl.peqNil rfl rfl ?_
    (repeat' (first | refine Wl.moveE (by conv => { lhs; whnf }) ?_ | refine Wl.nil ?_ | refine Qseq.normal ?_ | refine Wc.seq ?_ | refine Wc.region ?_ | refine Wc.condF rfl ?_ | refine Wl.nilP rfl ?_ | refine Wl.fieldAddr rfl rfl ?_))
    refine Wl.load1 rfl (h.cell (o := 0) rfl) ?_
    (repeat' (refine Wl.moveE (by conv => { lhs; whnf }) ?_))
    refine Wl.pneSame rfl rfl ?_
    (repeat' (first | refine Wl.nil ?_ | refine Qseq.normal ?_ | refine Wc.skip ?_ | refine Wc.condF rfl ?_))
    exact Qfn.end0 rfl ⟨_, rfl, rfl, h, Chg.refl _ _⟩

theorem OwnS.block {α : Type} {R : Rel α} {e : TypeId} {sz : Nat} {Pb Pe : Nat → Prop} {w : World} {v : Value} {xs : List α} (h : OwnS R e sz Pb Pe w v xs) : v.oneCell' = true := by
  obtain ⟨a, cap, rfl, _⟩ := h.form; rfl

theorem WriteString_spec {Pb : Nat → Prop} {w : World} {b : Nat} {l s : List UInt8} (h : IsB Pb w b l) (hl : l.length + s.length ≤ 140737488355328) :
    Calls Tryz.prog 36 #[.pointer (some ⟨b, 0, none⟩), vs s] w (Ret fun _ w' => IsB (fun k => Pb k ∨ w.heap.size ≤ k) w' b (l ++ s) ∧ Chg Pb w w') := by
  obtain ⟨hb, p, v, ho, hp, hv, hne⟩ := h
  refine calls_of_Wc (n := 19) Tryz.func36 rfl rfl rfl ?_
  (repeat' (first | refine Wl.moveE (by conv => { lhs; whnf }) ?_ | refine Wl.assignE (by conv => { lhs; whnf }) ?_ | refine Wl.nil ?_ | refine Qseq.normal ?_ | refine Wc.seq ?_ | refine Wc.region ?_))
  refine Wl.call (copyCheck_spec ho hp) rfl ?_
  rintro _ w1 ⟨rfl, ho1, hc1⟩
  have hv1 : OwnS (one by8) 5 1 (fun k => Pb k ∧ k ≠ b) (fun _ => False) w1 v l := by
    obtain ⟨cs, hoc, he⟩ := hv
    have hoc1 : OwnC (fun k => Pb k ∧ k ≠ b) w 5 1 v l.length cs := by
      refine ⟨hoc.1, hoc.2.imp id ?_⟩
      rintro ⟨g, cap, cur, hvg, hg, r⟩
      exact ⟨g, cap, cur, hvg, ⟨hg, fun e => hne (by rw [hvg, e]; rfl)⟩, r⟩
    exact ⟨cs, hoc1.keep (hc1.keep fun k _ hk => hk.2), he⟩
  (repeat' (first | refine Wl.moveE (by conv => { lhs; whnf }) ?_ | refine Wl.nil ?_ | refine Qseq.normal ?_ | refine Wc.seq ?_ | refine Wc.region ?_ | refine Wl.nilP rfl ?_ | refine Wl.fieldAddr rfl rfl ?_))
  refine Wl.load1 rfl (ho1.cell (o := 1) rfl) ?_
  (repeat' (refine Wl.moveE (by conv => { lhs; whnf }) ?_))
  refine Wl.appendStr hv1 rfl rfl (by simp [maxLen]; omega) (by omega) fun v2 w2 hv2 hc2 hlie => ?_
  (repeat' (first | refine Wl.nilP rfl ?_ | refine Wl.fieldAddr rfl rfl ?_))
  have ho2 := ho1.chg hc2 (fun e => (hv1.lt e).1.2 rfl)
  refine Wl.store1 ho2 rfl (by simp) rfl (OwnS.block hv2) fun w3 ho3 hc3 => ?_
  (repeat' (first | refine Wl.moveE (by conv => { lhs; whnf }) ?_ | refine Wl.assignE (by conv => { lhs; whnf }) ?_ | refine Wl.nil ?_ | refine Wl.lenStr rfl ?_ | refine Qseq.normal ?_ | refine Wc.seq ?_ | refine Wc.region ?_ | refine Wc.ret ?_))
  have hlt : b < w1.heap.size := ho1.lt
  have hne2 : v2.ownBlock ≠ some b := fun e => by
    rcases hlie with h' | h'
    · exact (hv1.lt (h' ▸ e)).1.2 rfl
    · have := h' b e; omega
  have hs1 := hc1.size
  refine Qfn.ret2 rfl rfl rfl ⟨_, rfl, ⟨.inl hb, _, v2, ho3, .inr rfl, ?_, hne2⟩, ?_⟩
  · have : OwnS (one by8) 5 1 (fun k => (Pb k ∨ w.heap.size ≤ k) ∧ k ≠ b) (fun _ => False) w2 v2 (l ++ s) := by
      obtain ⟨cs, hoc, he⟩ := hv2
      refine ⟨cs, ⟨hoc.1, hoc.2.imp id ?_⟩, he⟩
      rintro ⟨g, cap, cur, hvg, hg, r⟩
      exact ⟨g, cap, cur, hvg, ⟨hg.imp (fun h => h.1) (fun h => by omega), fun e => hne2 (by rw [hvg, e]; rfl)⟩, r⟩
    exact (this.keep goodR8.st (hc3.keep fun k _ hk => hk.2) (fun k hk => hk.elim)).mono goodR8.mo (fun k _ h => h.1) (fun k _ h => h)
  · exact ((hc1.mono (M' := Pb) fun k _ e => e ▸ hb).trans hc2 (fun k _ e => (hv1.lt e).1.1)).trans hc3 (fun k _ e => e ▸ hb)

theorem WriteByte_spec {Pb : Nat → Prop} {w : World} {b : Nat} {l : List UInt8} {c : UInt8} (h : IsB Pb w b l) (hl : l.length + 1 ≤ 140737488355328) :
    Calls Tryz.prog 33 #[.pointer (some ⟨b, 0, none⟩), by8 c] w (Ret fun _ w' => IsB (fun k => Pb k ∨ w.heap.size ≤ k) w' b (l ++ [c]) ∧ Chg Pb w w') := by
  obtain ⟨hb, p, v, ho, hp, hv, hne⟩ := h
  refine calls_of_Wc (n := 17) Tryz.func33 rfl rfl rfl ?_
  (repeat' (first | refine Wl.moveE (by conv => { lhs; whnf }) ?_ | refine Wl.assignE (by conv => { lhs; whnf }) ?_ | refine Wl.nil ?_ | refine Qseq.normal ?_ | refine Wc.seq ?_ | refine Wc.region ?_))
  refine Wl.call (copyCheck_spec ho hp) rfl ?_
  rintro _ w1 ⟨rfl, ho1, hc1⟩
  have hv1 : OwnS (one by8) 5 1 (fun k => Pb k ∧ k ≠ b) (fun _ => False) w1 v l := by
    obtain ⟨cs, hoc, he⟩ := hv
    have hoc1 : OwnC (fun k => Pb k ∧ k ≠ b) w 5 1 v l.length cs := by
      refine ⟨hoc.1, hoc.2.imp id ?_⟩
      rintro ⟨g, cap, cur, hvg, hg, r⟩
      exact ⟨g, cap, cur, hvg, ⟨hg, fun e => hne (by rw [hvg, e]; rfl)⟩, r⟩
    exact ⟨cs, hoc1.keep (hc1.keep fun k _ hk => hk.2), he⟩
  (repeat' (first | refine Wl.moveE (by conv => { lhs; whnf }) ?_ | refine Wl.nil ?_ | refine Qseq.normal ?_ | refine Wc.seq ?_ | refine Wc.region ?_ | refine Wl.nilP rfl ?_ | refine Wl.fieldAddr rfl rfl ?_))
  refine Wl.load1 rfl (ho1.cell (o := 1) rfl) ?_
  (repeat' (refine Wl.moveE (by conv => { lhs; whnf }) ?_))
  refine Wl.append1 (y := c) goodR8 hv1 rfl rfl rfl rfl rfl (by omega) (by omega) (by simp [maxLen]; omega) (by omega) rfl rfl fun v2 w2 _ hv2 hc2 hlie => ?_
  (repeat' (first | refine Wl.nilP rfl ?_ | refine Wl.fieldAddr rfl rfl ?_))
  have ho2 := ho1.chg hc2 (fun e => (hv1.lt e).1.2 rfl)
  refine Wl.store1 ho2 rfl (by simp) rfl (OwnS.block hv2) fun w3 ho3 hc3 => ?_
  (repeat' (first | refine Wl.assignE (by conv => { lhs; whnf }) ?_ | refine Wl.nil ?_ | refine Qseq.normal ?_ | refine Wc.seq ?_ | refine Wc.region ?_ | refine Wc.ret ?_))
  have hlt : b < w1.heap.size := ho1.lt
  have hne2 : v2.ownBlock ≠ some b := fun e => by
    rcases hlie with h' | h'
    · exact (hv1.lt (h' ▸ e)).1.2 rfl
    · have := h' b e; omega
  have hs1 := hc1.size
  refine Qfn.ret1 rfl rfl ⟨_, rfl, ⟨.inl hb, _, v2, ho3, .inr rfl, ?_, hne2⟩, ?_⟩
  · have : OwnS (one by8) 5 1 (fun k => (Pb k ∨ w.heap.size ≤ k) ∧ k ≠ b) (fun _ => False) w2 v2 (l ++ [c]) := by
      obtain ⟨cs, hoc, he⟩ := hv2
      refine ⟨cs, ⟨hoc.1, hoc.2.imp id ?_⟩, he⟩
      rintro ⟨g, cap, cur, hvg, hg, r⟩
      exact ⟨g, cap, cur, hvg, ⟨hg.imp (fun h => h.1) (fun h => by omega), fun e => hne2 (by rw [hvg, e]; rfl)⟩, r⟩
    exact (this.keep goodR8.st (hc3.keep fun k _ hk => hk.2) (fun k hk => hk.elim)).mono goodR8.mo (fun k _ h => h.1) (fun k _ h => h)
  · exact ((hc1.mono (M' := Pb) fun k _ e => e ▸ hb).trans hc2 (fun k _ e => (hv1.lt e).1.1)).trans hc3 (fun k _ e => e ▸ hb)

/-- What the shelf's contract asks, out of ours. -/
theorem IsB.shelf {Pb : Nat → Prop} {w : World} {b B : Nat} {l : List UInt8} (h : IsB Pb w b l) (hB : ∀ k, Pb k → B ≤ k) : Lib.IsBuilder 62 5 B b (Lib.byteCells l) w := by
  obtain ⟨hb, p, v, ho, hp, hv, hne⟩ := h
  have hoc := hv.to1
  have key : Lib.BuilderAt 62 5 B b p (Lib.byteCells l) w := by
    refine ⟨hB b hb, v, ho, ?_, hne⟩
    refine ⟨by simp [Lib.byteCells], ?_⟩
    rcases hoc.2 with ⟨h1, h2⟩ | ⟨g, cap, cur, h1, h2, h3, h4, h5, h6, h7⟩
    · exact .inl ⟨h1, by simpa [Lib.byteCells] using h2⟩
    · exact .inr ⟨g, cap, cur, by simpa [Lib.byteCells] using h1, hB g h2, h3, by simpa [Lib.byteCells] using h4, h5, h6, by simpa [Lib.byteCells] using h7⟩
  rcases hp with rfl | rfl
  · exact .inl key
  · exact .inr key
end Go.Proofs.YtpnpllghabbhlaaGreatDoor

namespace Go.Proofs.YtpnpllghabbhlaaGreatDoor
open Go Wk
open Go.RowKit (Below)
attribute [local irreducible] Go.Calls

theorem get_ba (s : List UInt8) (i : Nat) : (ByteArray.get! ⟨s.toArray⟩ i).toNat = (s[i]?.getD 0).toNat := by
  have : ByteArray.get! ⟨s.toArray⟩ i = s[i]?.getD 0 := by
    show s.toArray[i]! = _
    rw [Array.getElem!_eq_getD, Array.getD_eq_getD_getElem?, List.getElem?_toArray]
    rfl
  rw [this]
theorem decode_drop (s : List UInt8) (q : Nat) : Utf8.decode ⟨s.toArray⟩ q = decW (s.drop q) := by
  rw [Lib.decode_at]
  unfold decW gB
  rw [get_ba, get_ba, get_ba, get_ba, List.getElem?_drop, List.getElem?_drop, List.getElem?_drop, List.getElem?_drop, List.length_drop]
  show Lib.decodeN (s.toArray.size - q) _ _ _ _ = _
  rw [List.size_toArray]
  rfl
theorem shownP_spec {w : World} {s : List UInt8} (hs : s.length ≤ 100000000) :
    Calls Tryz.prog 50 #[vs s, .int .u8 34] w (Ret fun v w' => OwnS (one by8) 5 1 (fun k => w.heap.size ≤ k) NoB w' v (encT (toks s)) ∧ New w w') := by
  have hee := encS_len s
  refine calls_of_Wc Tryz.func50 rfl Tryz.ntmps50 rfl ?_
  (repeat' (first | refine Wl.moveE (by conv => { lhs; whnf }) ?_ | refine Wl.assignE (by conv => { lhs; whnf }) ?_ | refine Wl.nil ?_ | refine Wl.lenStr rfl ?_ | refine Qseq.normal ?_ | refine Wc.seq ?_ | refine Wc.region ?_ | refine Wl.add rfl rfl (by omega) (by omega) ?_))
  refine Wl.make0 (R := one by8) (Pe := NoB) rfl rfl (by omega) (by omega) (by omega) fun v w1 o1 n1 => ?_
  (repeat' (first | refine Wl.moveE (by conv => { lhs; whnf }) ?_ | refine Wl.assignE (by conv => { lhs; whnf }) ?_ | refine Wl.nil ?_ | refine Qseq.normal ?_ | refine Wc.seq ?_ | refine Wc.region ?_))
  refine Wl.rangeS rfl fun w2 h2 n2 s2 => ?_
  (repeat' (first | refine Wl.nil ?_ | refine Qseq.normal ?_ | refine Wc.block ?_))
  have hz1 := n1.size
  have o1' : OwnS (one by8) 5 1 (fun k => w.heap.size ≤ k ∧ k ≠ w1.heap.size) NoB w1 v [] := o1.reblk fun k hk e => ⟨e, fun e' => by have := (o1.lt hk).2; omega⟩
  refine Wc.loop (σ := Nat × Value × List UInt8) (fun x => [(0, vs s), (1, .int .u8 34), (5, x.2.1), (13, .pointer (some ⟨w1.heap.size, 0, none⟩))])
    (fun x W => x.1 ≤ s.length ∧ W.heap[w1.heap.size]? = some (.stringIter ⟨s.toArray⟩ x.1) ∧ x.2.2 ++ encT (toks (s.drop x.1)) = encT (toks s) ∧ OwnS (one by8) 5 1 (fun k => w.heap.size ≤ k ∧ k ≠ w1.heap.size) NoB W x.2.1 x.2.2 ∧ New w W) (fun x => s.length - x.1) (0, v, []) ⟨rfl, rfl, rfl, rfl, trivial⟩ ⟨Nat.zero_le _, h2, rfl, o1'.new (plain_one _) n2, New.trans n1 n2⟩ ?_
  rintro ⟨q, u, d⟩ G W ⟨hq, hit, hd, o, n⟩
  dsimp only at hq hit hd o
  simp only [upds]
  have hitlt := heap_lt hit
  refine Wc.seq (Wc.region ?_)
  rcases Nat.lt_or_ge q s.length with hlt | hge
  · refine Wl.nextS rfl hit hlt fun W1 hit1 c1 => ?_
    rw [decode_drop] at hit1 ⊢
    have hne : s.drop q ≠ [] := fun e => by have := congrArg List.length e; rw [List.length_drop, List.length_nil] at this; omega
    have hw := decW_w hne
    rw [List.length_drop] at hw
    (repeat' (first | refine Wl.moveE (by conv => { lhs; whnf }) ?_ | refine Wl.assignE (by conv => { lhs; whnf }) ?_ | refine Wl.nil ?_ | refine Wl.extract rfl rfl ?_ | refine Qseq.normal ?_ | refine Wc.seq ?_ | refine Wc.region ?_ | refine Wc.block ?_ | refine Wc.skip ?_ | refine Wc.condT rfl ?_))
    have o' := o.chg (plain_one _) c1 fun k hk e => (o.lt hk).1.2 e
    have hz := n.size
    have hzc := c1.size
    have hdl : d.length ≤ (encT (toks s)).length := by rw [← hd, List.length_append]; omega
    refine Wl.call (put_spec o' hs (by omega) hlt) rfl ?_
    rintro v2 W2 ⟨o2, c2⟩
    (repeat' (first | refine Wl.assignE (by conv => { lhs; whnf }) ?_ | refine Wl.nil ?_ | refine Qblk.normal ?_))
    have hit2 : W2.heap[w1.heap.size]? = some (.stringIter ⟨s.toArray⟩ (q + (decW (s.drop q)).2)) := (c2.block _ (by omega) fun e => (o'.lt e).1.2 rfl).trans hit1
    refine Qloop.normal (q + (decW (s.drop q)).2, v2, d ++ encT (pieceT (s.drop q))) ⟨rfl, rfl, rfl, rfl, trivial⟩ ⟨by dsimp only; omega, hit2, ?_, o2.mono goodR8.mo (fun k _ e => by rcases e with e | e; exact e; exact ⟨by omega, by omega⟩) (fun _ _ e => e), ?_⟩ (by dsimp only; omega)
    · dsimp only
      rw [← hd, toks_cons hne, List.drop_drop]
      unfold encT
      rw [List.flatMap_append, List.append_assoc]
    · exact ((Chg.trans n.any c1 fun k _ e => .inl e).trans (M := fun k => k = w1.heap.size ∨ u.ownBlock = some k) c2 fun k _ e => .inr e).toNew fun k hk e => by
        rcases e with e | e
        · omega
        · have := (o.lt e).1; omega
  · refine Wl.nextE rfl hit hge ?_
    (repeat' (first | refine Wl.moveE (by conv => { lhs; whnf }) ?_ | refine Wl.assignE (by conv => { lhs; whnf }) ?_ | refine Wl.nil ?_ | refine Wl.extract rfl rfl ?_ | refine Qseq.normal ?_ | refine Wc.seq ?_ | refine Wc.region ?_ | refine Wc.exit ?_ | refine Wc.ret ?_ | refine Qseq.exit ?_ | refine Qblk.hit ?_ | refine Qloop.exit ?_ | refine Wc.condF rfl ?_))
    rw [List.drop_eq_nil_of_le hge, toks_nil] at hd
    have hd' : d = encT (toks s) := by rw [← hd]; show d = d ++ []; rw [List.append_nil]
    rw [← hd']
    exact Qfn.ret1 rfl rfl ⟨_, rfl, o.mono goodR8.mo (fun k _ e => e.1) (fun _ _ e => e), n⟩
theorem QuoteP_spec {w : World} {s : List UInt8} (hs : s.length ≤ 100000000) :
    Calls Tryz.prog 35 #[vs s] w (Ret fun r w' => r = vs (quoteW s) ∧ New w w') := by
  have hee := encS_len s
  refine calls_of_Wc Tryz.func35 rfl Tryz.ntmps35 rfl ?_
  (repeat' (first | refine Wl.moveE (by conv => { lhs; whnf }) ?_ | refine Wl.assignE (by conv => { lhs; whnf }) ?_ | refine Wl.nil ?_ | refine Qseq.normal ?_ | refine Wc.seq ?_ | refine Wc.region ?_))
  refine Wl.call (shownP_spec hs) rfl ?_
  rintro v w1 ⟨o1, n1⟩
  refine Wl.bytesStr (o1.rd goodR8.mo) rfl ?_
  skip
  refine Wl.sadd (a := [34]) rfl rfl (by simp only [List.length_singleton]; omega) ?_
  refine Wl.sadd (b := [34]) rfl rfl (by simp only [List.length_append, List.length_singleton]; omega) ?_
  (repeat' (first | refine Wl.assignE (by conv => { lhs; whnf }) ?_ | refine Wl.nil ?_ | refine Qseq.normal ?_ | refine Wc.ret ?_))
  exact Qfn.ret1 rfl rfl ⟨_, rfl, rfl, n1⟩
theorem IsB.wide {w w0 : World} {b : Nat} {l : List UInt8} {Pb : Nat → Prop} (h : IsB Pb w b l) (hb : w0.heap.size ≤ b) (hP : ∀ k, Pb k → w0.heap.size ≤ k) : IsB (fun k => w0.heap.size ≤ k) w b l := by
  obtain ⟨_, p, v, ho, hp, hv, hne⟩ := h
  exact ⟨hb, p, v, ho, hp, hv.mono goodR8.mo (fun b _ h => hP b h) (fun _ _ h => h), hne⟩
theorem LineP_spec {Pb : Nat → Prop} {w : World} {v : Value} {l : List (List UInt8)} (h : RdS (one vs) 1 Pb w v l) (hs : ∀ s ∈ l, s.length ≤ 100000000) (hl : (lineW l).length ≤ 1000000000) :
    Calls Tryz.prog 20 #[v] w (Ret fun r w' => r = vs (lineW l) ∧ New w w') := by
  obtain ⟨a, cp, rfl, hc1, hc2⟩ := h.form
  simp only [maxLen] at hc2
  replace h := h.mono (Pb' := fun k => k < w.heap.size) (mono_one _) fun k hk _ => hk
  refine calls_of_Wc Tryz.func20 rfl Tryz.ntmps20 rfl ?_
  (repeat' (first | refine Wl.assignE (by conv => { lhs; whnf }) ?_ | refine Wl.nil ?_ | refine Qseq.normal ?_ | refine Wc.seq ?_ | refine Wc.region ?_))
  refine Wl.alloc fun w1 ho1 hn1 hs1 => ?_
  (repeat' (first | refine Wl.moveE (by conv => { lhs; whnf }) ?_ | refine Wl.nil ?_ | refine Wl.lenS rfl ?_ | refine Qseq.normal ?_ | refine Wc.seq ?_ | refine Wc.region ?_ | refine Wc.block ?_))
  have hB1 : IsB (fun k => w.heap.size ≤ k) w1 w.heap.size [] := ⟨Nat.le_refl _, _, _, ho1, .inl rfl, OwnS.nil, by simp [Value.ownBlock]⟩
  refine Wc.loop (σ := Nat) (fun i => [(3, .pointer (some ⟨w.heap.size, 0, none⟩)), (6, .slice a l.length cp), (7, vi l.length), (8, vi i)]) (fun i W => i ≤ l.length ∧ IsB (fun k => w.heap.size ≤ k) W w.heap.size (lineW (l.take i)) ∧ New w W) (fun i => l.length - i) 0 ⟨rfl, rfl, rfl, rfl, trivial⟩ ⟨Nat.zero_le _, hB1, hn1⟩ ?_
  rintro i G W ⟨hi, hB, n⟩
  simp only [upds]
  refine Wc.seq ?_
  (repeat' (first | refine Wl.nil ?_ | refine Qseq.normal ?_ | refine Wc.region ?_ | refine Wl.lss rfl rfl (fun _ => ?_) (fun _ => ?_)))
  · refine Wc.seq ?_
    (repeat' (first | refine Qseq.normal ?_ | refine Wc.skip ?_ | refine Wc.condT rfl ?_))
    obtain ⟨s, hx⟩ : ∃ s, l[i]? = some s := ⟨_, List.getElem?_eq_getElem (by omega)⟩
    have hsl := hs s (List.mem_of_getElem? hx)
    have hle := lineW_le l (i + 1)
    rw [lineW_take hx, List.length_append] at hle
    refine Wc.seq (Wc.block (Wc.seq ?_))
    (repeat' (first | refine Wl.moveE (by conv => { lhs; whnf }) ?_ | refine Wc.region ?_))
    refine Wl.idxAddr (h.keep (stable_one _) n.keep) rfl rfl (by omega) (by rw [Int.toNat_natCast]; exact hx) fun bb off cs hcl hR hat => ?_
    obtain rfl : cs = [vs s] := hR
    refine Wl.load1 (u := vs s) rfl (hat.get 0 rfl) ?_
    (repeat' (first | refine Wl.assignE (by conv => { lhs; whnf }) ?_ | refine Wl.nil ?_ | refine Qseq.normal ?_))
    have hz := n.size
    refine Wc.cutR (fun F W' => agrees F [(3, .pointer (some ⟨w.heap.size, 0, none⟩)), (5, vs s), (6, .slice a l.length cp), (7, vi l.length), (8, vi i)] ∧ IsB (fun k => w.heap.size ≤ k) W' w.heap.size (if i = 0 then [] else lineW (l.take i) ++ [32]) ∧ New w W') ?_ ?_
    · (repeat' (first | refine Wl.moveE (by conv => { lhs; whnf }) ?_ | refine Wl.nil ?_ | refine Qseq.normal ?_ | refine Wc.seq ?_ | refine Wc.region ?_ | refine Wc.skip ?_ | refine Wc.condT rfl ?_ | refine Wc.condF rfl ?_ | refine Wl.gtr rfl rfl (fun _ => ?_) (fun _ => ?_)))
      · rw [if_neg (by omega), List.length_append, List.length_singleton] at hle
        refine Wl.call (WriteByte_spec (c := 32) hB (by omega)) rfl ?_
        rintro _ w3 ⟨hB3, hc3⟩
        (repeat' (refine Wl.nil ?_))
        refine Qm.normal ⟨⟨rfl, rfl, rfl, rfl, rfl, trivial⟩, ?_, (Chg.trans n.any hc3 fun _ _ e => e).toNew fun k hk e => by omega⟩
        rw [if_neg (by omega)]
        exact IsB.wide hB3 (Nat.le_refl _) fun k e => by omega
      · refine Qm.normal ⟨⟨rfl, rfl, rfl, rfl, rfl, trivial⟩, ?_, n⟩
        obtain rfl : i = 0 := by omega
        exact hB
    rintro F W' ⟨ag, hB', n'⟩
    refine Wc.frame _ ag fun G1 => ?_
    clear ag hB n hat
    simp only [upds]
    have hz' := n'.size
    refine Wc.cutR (fun F W2 => agrees F [(3, .pointer (some ⟨w.heap.size, 0, none⟩)), (5, vs (wordW s)), (6, .slice a l.length cp), (7, vi l.length), (8, vi i)] ∧ New W' W2) ?_ ?_
    · (repeat' (first | refine Wl.moveE (by conv => { lhs; whnf }) ?_ | refine Wc.seq ?_ | refine Wc.region ?_))
      refine Wl.call (plain_spec hsl) rfl ?_
      rintro _ w2 ⟨rfl, n2⟩
      by_cases hp : plainW s = true
      · have hw : wordW s = s := by unfold wordW; rw [if_pos hp]
        rw [hp, hw]
        (repeat' (first | refine Wl.nil ?_ | refine Wl.notB rfl ?_ | refine Qseq.normal ?_ | refine Wc.skip ?_ | refine Wc.condF rfl ?_))
        exact Qm.normal ⟨⟨rfl, rfl, rfl, rfl, rfl, trivial⟩, n2⟩
      · rw [Bool.not_eq_true] at hp
        have hw : wordW s = quoteW s := by unfold wordW; rw [if_neg (by rw [hp]; decide)]
        rw [hp, hw]
        (repeat' (first | refine Wl.moveE (by conv => { lhs; whnf }) ?_ | refine Wl.nil ?_ | refine Wl.notB rfl ?_ | refine Qseq.normal ?_ | refine Wc.region ?_ | refine Wc.condT rfl ?_))
        refine Wl.call (QuoteP_spec hsl) rfl ?_
        rintro _ w3 ⟨rfl, n3⟩
        (repeat' (first | refine Wl.assignE (by conv => { lhs; whnf }) ?_ | refine Wl.nil ?_))
        exact Qm.normal ⟨⟨rfl, rfl, rfl, rfl, rfl, trivial⟩, New.trans n2 n3⟩
    rintro F W2 ⟨ag, n2⟩
    refine Wc.frame _ ag fun G2 => ?_
    clear ag
    simp only [upds]
    have hz2 := n2.size
    have hB2 := hB'.keep (w' := W2) n2.keep
    (repeat' (first | refine Wl.moveE (by conv => { lhs; whnf }) ?_ | refine Wc.region ?_))
    refine Wl.call (WriteString_spec (s := wordW s) hB2 (by omega)) rfl ?_
    rintro _ w4 ⟨hB4, hc4⟩
    rw [← lineW_take hx] at hB4
    (repeat' (first | refine Wl.moveE (by conv => { lhs; whnf }) ?_ | refine Wl.nil ?_ | refine Qseq.normal ?_ | refine Wc.region ?_ | refine Qblk.normal ?_ | refine Wl.add rfl rfl (by omega) (by omega) ?_))
    exact Qloop.normal (i + 1) ⟨rfl, rfl, rfl, rfl, trivial⟩ ⟨by omega, IsB.wide hB4 (Nat.le_refl _) fun k e => by omega, (Chg.trans (New.trans n' n2).any hc4 fun _ _ e => e).toNew fun k hk e => by omega⟩ (by omega)
  · rw [List.take_of_length_le (by omega)] at hB
    (repeat' (first | refine Qseq.normal ?_ | refine Wc.seq ?_ | refine Wc.region ?_ | refine Wc.exit ?_ | refine Qseq.exit ?_ | refine Qblk.hit ?_ | refine Qloop.exit ?_ | refine Wc.condF rfl ?_))
    have hcall := (Tryz.Builder_String_any w.heap.size w.heap.size _ W (hB.shelf fun k h => h) n.size)
    refine Wl.call (φ := fun r w' => r = vs (lineW l) ∧ Below w.heap.size W w') (hcall.mono ?_) rfl ?_
    · rintro e w' ⟨rfl, hb⟩; exact ⟨_, rfl, rfl, hb⟩
    rintro _ w3 ⟨rfl, hb3⟩
    (repeat' (first | refine Wl.assignE (by conv => { lhs; whnf }) ?_ | refine Wl.nil ?_ | refine Qseq.normal ?_ | refine Wc.ret ?_))
    exact Qfn.ret1 rfl rfl ⟨_, rfl, rfl, Chg.trans n (Chg.ofBelow hb3) fun b hb e => by omega⟩
end Go.Proofs.YtpnpllghabbhlaaGreatDoor

namespace Go.Proofs.YtpnpllghabbhlaaGreatDoor.Wk
open Go Go.RowKit

class Ifc (P : Program) (t : TypeId) : Prop where
  h : ∃ ms, P.underlying t = some (.interface ms)
class Conc (P : Program) (t : TypeId) : Prop where
  h : P.concrete t = true
class CmpT (P : Program) (t : TypeId) : Prop where
  h : (P.info? t).map (·.comparable) = some true
theorem Ifc.at {P : Program} {t : TypeId} (h : Ifc P t) : P.underlying t = some (.interface (P.methodsAt t)) := by
  obtain ⟨ms, h⟩ := h.h
  rw [h]; simp [Program.methodsAt, h]
section
variable {P : Program} {n : Nat} {ds : List Deferred} {Q : Po} {F : Fr} {w : World} {ops rest : List Oper} {d : Nat} {ty t t' : TypeId} {pos : String} {aft : Array Edge} {x y : Operand}
theorem Wl.mkIface {v : Value} [hc : Conc P t] (hx : ev n F x = v) (k : Wl P n ds Q ops rest (upd F d (.iface t v)) w) :
    Wl P n ds Q ops (⟨some d, .makeInterface t x, ty, pos, aft, none⟩ :: rest) F w :=
  Wl.val (by simp only [execOp, hx, Sem.run_bind, run_makeInterface w t v hc.h, Result.andThen_ok, Sem.run_pure]) k
theorem run_eqGuard_held {op : BinOp} {u u' : TypeId} {v v' : Value} : (eqGuard op t x y (.iface u v) (.iface u' v')).run P w = .ok () w := by
  unfold eqGuard; split <;> simp
theorem run_eqGuard_heldNil {op : BinOp} {u : TypeId} {v : Value} : (eqGuard op t x y (.iface u v) .nilIface).run P w = .ok () w := by
  unfold eqGuard; split <;> simp
theorem run_eqGuard_nilConst {op : BinOp} {v : Value} : (eqGuard op t x (.const v) .nilIface .nilIface).run P w = .ok () w := by
  unfold eqGuard; split <;> simp
theorem ev_const {v : Value} : ev n F (.const v) = v := rfl
/-- An interface's value against nil, written out. -/
theorem Wl.ineNil [hi : Ifc P t] (hx : ev n F x = .nilIface) (c : Wl P n ds Q ops rest (upd F d (.bool false)) w) : Wl P n ds Q ops (⟨some d, .binOp .neq t x (.const .nilIface) t', ty, pos, aft, none⟩ :: rest) F w :=
  Wl.val (by simp only [execOp, hx, ev_const, Sem.run_bind, run_eqGuard_nilConst, Result.andThen_ok, run_neq_nil_nil w t hi.at, Sem.run_pure]) c
theorem Wl.ineHeld [hi : Ifc P t] {u : TypeId} {v : Value} (hx : ev n F x = .iface u v) (c : Wl P n ds Q ops rest (upd F d (.bool true)) w) : Wl P n ds Q ops (⟨some d, .binOp .neq t x (.const .nilIface) t', ty, pos, aft, none⟩ :: rest) F w :=
  Wl.val (by simp only [execOp, hx, ev_const, Sem.run_bind, run_eqGuard_heldNil, Result.andThen_ok, run_neq_held_nil w t u v hi.at, Sem.run_pure]) c
theorem Wl.ieqNil [hi : Ifc P t] (hx : ev n F x = .nilIface) (c : Wl P n ds Q ops rest (upd F d (.bool true)) w) : Wl P n ds Q ops (⟨some d, .binOp .eql t x (.const .nilIface) t', ty, pos, aft, none⟩ :: rest) F w :=
  Wl.val (by simp only [execOp, hx, ev_const, Sem.run_bind, run_eqGuard_nilConst, Result.andThen_ok, run_eql_nil_nil w t hi.at, Sem.run_pure]) c
theorem Wl.ieqHeld [hi : Ifc P t] {u : TypeId} {v : Value} (hx : ev n F x = .iface u v) (c : Wl P n ds Q ops rest (upd F d (.bool false)) w) : Wl P n ds Q ops (⟨some d, .binOp .eql t x (.const .nilIface) t', ty, pos, aft, none⟩ :: rest) F w :=
  Wl.val (by simp only [execOp, hx, ev_const, Sem.run_bind, run_eqGuard_heldNil, Result.andThen_ok, run_eql_held_nil w t u v hi.at, Sem.run_pure]) c
/-- Two values of one integer type, held in interfaces. -/
theorem Wl.ieqInt [hi : Ifc P t] {u : TypeId} {k q : IntKind} {a b : Int} {r : Bool} [hu : Und P u (.int q)] [hc : CmpT P u] (hr : (a == b) = r) (hx : ev n F x = .iface u (.int k a)) (hy : ev n F y = .iface u (.int k b)) (c : Wl P n ds Q ops rest (upd F d (.bool r)) w) :
    Wl P n ds Q ops (⟨some d, .binOp .eql t x y t', ty, pos, aft, none⟩ :: rest) F w := by
  obtain ⟨ms, h⟩ := hi.h
  refine Wl.val ?_ c
  simp only [execOp, hx, hy, Sem.run_bind, run_eqGuard_held, Result.andThen_ok, Lib.run_eql_iface_int w a b h hc.h hu.h, hr, Sem.run_pure]
end
end Go.Proofs.YtpnpllghabbhlaaGreatDoor.Wk

namespace Go.Proofs.YtpnpllghabbhlaaGreatDoor
open Go Wk
open Go.RowKit (Below)
attribute [local irreducible] Go.Calls

instance ifcErr : Ifc Tryz.prog 64 := ⟨_, Tryz.underlying64⟩
instance concE : Conc Tryz.prog 99 := ⟨by kernel_rfl⟩
instance cmpE : CmpT Tryz.prog 99 := ⟨by kernel_rfl⟩

/-- What a digit is worth. -/
def hexv (c : UInt8) : Option Nat := if 48 ≤ c.toNat ∧ c.toNat ≤ 57 then some (c.toNat - 48) else if 97 ≤ c.toNat ∧ c.toNat ≤ 102 then some (c.toNat - 87) else if 65 ≤ c.toNat ∧ c.toNat ≤ 70 then some (c.toNat - 55) else none
/-- The number that digits say, at most mx. -/
def puGo (mx : Nat) : List UInt8 → Nat → Option Nat
  | [], n => some n
  | c :: r, n => match hexv c with
    | none => none
    | some d => if 16 * n + d ≤ mx then puGo mx r (16 * n + d) else none
def puR (mx : Nat) (s : List UInt8) : Option Nat := if s = [] then none else puGo mx s 0

/-- A letter, made small. -/
def loB (c : UInt8) : Nat := (bits .or .u8 (c.toNat : Int) 32).toNat
theorem loB_spec (c : UInt8) : bits .or .u8 (c.toNat : Int) 32 = (loB c : Int) ∧ loB c < 256 ∧ (97 ≤ loB c ∧ loB c ≤ 122 → (97 ≤ c.toNat ∧ c.toNat ≤ 122 ∧ loB c = c.toNat) ∨ (65 ≤ c.toNat ∧ c.toNat ≤ 90 ∧ loB c = c.toNat + 32)) ∧ (97 ≤ c.toNat ∧ c.toNat ≤ 122 → loB c = c.toNat) ∧ (65 ≤ c.toNat ∧ c.toNat ≤ 90 → loB c = c.toNat + 32) := by
  have h : ∀ k : Fin 256, bits .or .u8 ((UInt8.ofNat k.val).toNat : Int) 32 = (loB (UInt8.ofNat k.val) : Int) ∧ loB (UInt8.ofNat k.val) < 256 ∧ (97 ≤ loB (UInt8.ofNat k.val) ∧ loB (UInt8.ofNat k.val) ≤ 122 → (97 ≤ (UInt8.ofNat k.val).toNat ∧ (UInt8.ofNat k.val).toNat ≤ 122 ∧ loB (UInt8.ofNat k.val) = (UInt8.ofNat k.val).toNat) ∨ (65 ≤ (UInt8.ofNat k.val).toNat ∧ (UInt8.ofNat k.val).toNat ≤ 90 ∧ loB (UInt8.ofNat k.val) = (UInt8.ofNat k.val).toNat + 32)) ∧ (97 ≤ (UInt8.ofNat k.val).toNat ∧ (UInt8.ofNat k.val).toNat ≤ 122 → loB (UInt8.ofNat k.val) = (UInt8.ofNat k.val).toNat) ∧ (65 ≤ (UInt8.ofNat k.val).toNat ∧ (UInt8.ofNat k.val).toNat ≤ 90 → loB (UInt8.ofNat k.val) = (UInt8.ofNat k.val).toNat + 32) := by decide +kernel
  have := h ⟨c.toNat, c.toNat_lt⟩
  simpa using this
theorem lower_spec {w : World} (c : UInt8) : Calls Tryz.prog 72 #[by8 c] w (Ret fun r w' => r = .int .u8 (loB c) ∧ w = w') := by
  refine (Tryz.internal_strconv_lower (c.toNat : Int) w).mono ?_
  rintro e w' ⟨rfl, rfl⟩
  rw [(loB_spec c).1]
  exact ⟨_, rfl, rfl, rfl⟩
/-- A parsed number, or the error. -/
def PuE (o : Option Nat) (r : Value) : Prop := match o with
  | some N => r = .tuple #[.int .u64 N, Value.nilIface]
  | none => ∃ m k : Int, r = .tuple #[.int .u64 m, .iface 99 (vi k)] ∧ (k = 1 ∨ k = 2)
theorem hexv_dig {c : UInt8} (h1 : 48 ≤ c.toNat) (h2 : c.toNat ≤ 57) : hexv c = some (c.toNat - 48) := by unfold hexv; rw [if_pos ⟨h1, h2⟩]
theorem hexv_let {c : UInt8} (h : ¬ (48 ≤ c.toNat ∧ c.toNat ≤ 57)) (h1 : 97 ≤ loB c) (h2 : loB c ≤ 122) : hexv c = if loB c ≤ 102 then some (loB c - 87) else none := by
  unfold hexv
  rw [if_neg h]
  rcases (loB_spec c).2.2.1 ⟨h1, h2⟩ with ⟨h3, h4, h5⟩ | ⟨h3, h4, h5⟩
  · rw [h5]
    by_cases h6 : c.toNat ≤ 102
    · rw [if_pos ⟨h3, h6⟩, if_pos h6]
    · rw [if_neg (by omega), if_neg (by omega), if_neg h6]
  · rw [h5]
    rw [if_neg (by omega)]
    by_cases h6 : c.toNat ≤ 70
    · rw [if_pos ⟨h3, h6⟩, if_pos (by omega)]; congr 1
    · rw [if_neg (by omega), if_neg (by omega)]
theorem hexv_none {c : UInt8} (h : ¬ (48 ≤ c.toNat ∧ c.toNat ≤ 57)) (h1 : ¬ (97 ≤ loB c ∧ loB c ≤ 122)) : hexv c = none := by
  obtain ⟨_, _, _, h4, h5⟩ := loB_spec c
  unfold hexv
  rw [if_neg h]
  by_cases h6 : 97 ≤ c.toNat ∧ c.toNat ≤ 102
  · exact absurd (by have := h4 ⟨h6.1, by omega⟩; omega) h1
  · rw [if_neg h6]
    by_cases h7 : 65 ≤ c.toNat ∧ c.toNat ≤ 70
    · exact absurd (by have := h5 ⟨h7.1, by omega⟩; omega) h1
    · rw [if_neg h7]
set_option maxRecDepth 8000 in
set_option maxHeartbeats 2000000 in
theorem iParse_spec {w : World} {s : List UInt8} {bits mx : Nat} (hb : bits = 8 ∧ mx = 255 ∨ bits = 32 ∧ mx = 4294967295) (hsl : s.length ≤ 1000000000) :
    Calls Tryz.prog 54 #[vs s, vi 16, vi bits] w (Ret fun r w' => PuE (puR mx s) r ∧ New w w') := by
  have hsh : IntKind.u64.wrap (IntKind.u64.wrap ((1 : Int) * 2 ^ (min (bits : Int).toNat IntKind.u64.bits)) - 1) = (mx : Int) := by
    rcases hb with ⟨rfl, rfl⟩ | ⟨rfl, rfl⟩ <;> decide
  have hmx : mx ≤ 4294967295 := by rcases hb with ⟨_, rfl⟩ | ⟨_, rfl⟩ <;> omega
  have hb2 : bits ≤ 32 ∧ 8 ≤ bits := by rcases hb with ⟨rfl, _⟩ | ⟨rfl, _⟩ <;> omega
  have hbw : IntKind.u64.wrap (bits : Int) = bits := wrap_u rfl (by omega) (by simp only [IntKind.bits]; omega)
  refine calls_of_Wc Tryz.func54 rfl Tryz.ntmps54 rfl ?_
  (repeat' (first | refine Wl.moveE (by conv => { lhs; whnf }) ?_ | refine Wl.assignE (by conv => { lhs; whnf }) ?_ | refine Wl.nil ?_ | refine Wl.guardY rfl rfl ?_ | refine Wl.pickTE rfl (by conv => { lhs; whnf }) ?_ | refine Wl.pickFE rfl (by conv => { lhs; whnf }) ?_ | refine Qseq.normal ?_ | refine Wc.seq ?_ | refine Wc.region ?_ | refine Wc.block ?_ | refine Wc.skip ?_ | refine Qblk.normal ?_ | refine Wc.condT rfl ?_ | refine Wc.condF rfl ?_ | refine Wl.convI rfl ?_ | (refine Wl.lss rfl rfl (fun _ => ?_) (fun _ => ?_) <;> (first | (exfalso; omega) | skip)) | (refine Wl.leq rfl rfl (fun _ => ?_) (fun _ => ?_) <;> (first | (exfalso; omega) | skip)) | (refine Wl.gtr rfl rfl (fun _ => ?_) (fun _ => ?_) <;> (first | (exfalso; omega) | skip)) | (refine Wl.eql rfl rfl (fun _ => ?_) (fun _ => ?_) <;> (first | (exfalso; omega) | skip)) | refine Wl.seql rfl rfl (fun _ => ?_) (fun _ => ?_)))
  · rename_i he
    refine Wl.mkIface rfl ?_
    (repeat' (first | refine Wl.assignE (by conv => { lhs; whnf }) ?_ | refine Wl.nil ?_ | refine Qseq.normal ?_ | refine Wc.ret ?_ | refine Qseq.ret ?_))
    refine Qfn.ret2 rfl rfl rfl ⟨_, rfl, ?_, Chg.refl _ _⟩
    rw [he]
    exact ⟨0, 2, rfl, .inr rfl⟩
  have hs : s ≠ [] := by assumption
  rw [hbw]
  refine Wl.shlW rfl rfl (by omega) ?_
  refine Wl.subW rfl rfl ?_
  rw [hsh]
  clear hsh hbw
  (repeat' (first | refine Wl.moveE (by conv => { lhs; whnf }) ?_ | refine Wl.assignE (by conv => { lhs; whnf }) ?_ | refine Wl.nil ?_ | refine Qseq.normal ?_ | refine Wc.seq ?_ | refine Wc.region ?_))
  refine Wl.strBytes rfl (by simp only [maxLen]; omega) fun w1 cap C fr hC htk hCs n1 s1 rb => ?_
  (repeat' (first | refine Wl.moveE (by conv => { lhs; whnf }) ?_ | refine Wl.nil ?_ | refine Wl.lenS rfl ?_ | refine Qseq.normal ?_ | refine Wc.block ?_))
  refine Wc.loop (σ := Nat × Nat) (fun q => [(1, vi 16), (8, .bool false), (10, .int .u64 1152921504606846976), (11, .int .u64 mx), (12, .bool false), (13, .int .u64 q.2), (99, .slice (some ⟨w.heap.size, 0, none⟩) s.length cap), (100, vi s.length), (101, vi q.1)])
    (fun q w' => q.1 ≤ s.length ∧ q.2 ≤ mx ∧ puR mx s = puGo mx (s.drop q.1) q.2 ∧ w' = w1) (fun q => s.length - q.1) (0, 0) ⟨rfl, rfl, rfl, rfl, rfl, rfl, rfl, rfl, rfl, trivial⟩ ⟨Nat.zero_le _, Nat.zero_le _, by unfold puR; rw [if_neg hs]; rfl, rfl⟩ ?_
  rintro ⟨k, n⟩ G _ ⟨hk, hn, hg, rfl⟩
  dsimp only at hk hn hg
  simp only [upds]
  (repeat' (first | refine Wl.moveE (by conv => { lhs; whnf }) ?_ | refine Wl.assignE (by conv => { lhs; whnf }) ?_ | refine Wl.nil ?_ | refine Wl.guardN rfl rfl ?_ | refine Wl.pickFE rfl (by conv => { lhs; whnf }) ?_ | refine Qseq.normal ?_ | refine Wc.seq ?_ | refine Wc.region ?_ | refine Wc.block ?_ | refine Wc.skip ?_ | refine Wc.exit ?_ | refine Wc.ret ?_ | refine Qseq.exit ?_ | refine Qblk.hit ?_ | refine Qloop.exit ?_ | refine Wc.condT rfl ?_ | refine Wc.condF rfl ?_ | refine Wl.lss rfl rfl (fun _ => ?_) (fun _ => ?_)))
  · obtain ⟨c, hc⟩ := get_byte s (k := k) (by omega)
    have hdr : s.drop k = c :: s.drop (k + 1) := by
      obtain ⟨h1, h2⟩ := List.getElem?_eq_some_iff.1 hc
      rw [List.drop_eq_getElem_cons h1, h2]
    rw [hdr] at hg
    have hcl := c.toNat_lt
    obtain ⟨_, hl256, _, _, _⟩ := loB_spec c
    refine Wl.idxLoadV rb rfl rfl (by omega) (by rw [Int.toNat_natCast]; exact hc) rfl rfl fun p => ?_
    by_cases hdig : 48 ≤ c.toNat ∧ c.toNat ≤ 57
    · obtain ⟨h1, h2⟩ := hdig
      unfold puGo at hg
      rw [hexv_dig h1 h2] at hg
      dsimp only at hg
      obtain ⟨d, hd⟩ : ∃ d, d = c.toNat - 48 := ⟨_, rfl⟩
      rw [← hd] at hg
      have hv : IntKind.u8.wrap ((c.toNat : Int) - 48) = (d : Int) := by rw [IntKind.wrap_u8]; omega
      (repeat' (first | refine Wl.moveE (by conv => { lhs; whnf }) ?_ | refine Wl.assignE (by conv => { lhs; whnf }) ?_ | refine Wl.nil ?_ | refine Wl.guardY rfl rfl ?_ | refine Wl.guardN rfl rfl ?_ | refine Wl.pickTE rfl (by conv => { lhs; whnf }) ?_ | refine Wl.pickFE rfl (by conv => { lhs; whnf }) ?_ | refine Qseq.normal ?_ | refine Wc.seq ?_ | refine Wc.region ?_ | refine Wc.block ?_ | refine Wc.condT rfl ?_ | refine Wc.condF rfl ?_ | (refine Wl.leq rfl rfl (fun _ => ?_) (fun _ => ?_) <;> (first | (exfalso; omega) | skip)) | (refine Wl.eql rfl rfl (fun _ => ?_) (fun _ => ?_) <;> (first | (exfalso; omega) | skip))))
      refine Wl.subW rfl rfl ?_
      rw [hv]
      (repeat' (first | refine Wl.moveE (by conv => { lhs; whnf }) ?_ | refine Wl.assignE (by conv => { lhs; whnf }) ?_ | refine Wl.nil ?_ | refine Qseq.normal ?_ | refine Wc.seq ?_ | refine Wc.region ?_ | refine Qblk.normal ?_))
      refine Wl.convI rfl ?_
      rw [show IntKind.u8.wrap 16 = 16 by decide]
      refine Wl.geq rfl rfl (fun _ => by omega) (fun _ => ?_)
      (repeat' (first | refine Wl.moveE (by conv => { lhs; whnf }) ?_ | refine Wl.nil ?_ | refine Qseq.normal ?_ | refine Wc.seq ?_ | refine Wc.region ?_ | refine Wc.skip ?_ | refine Wc.condF rfl ?_))
      refine Wl.geq rfl rfl (fun _ => by omega) (fun _ => ?_)
      (repeat' (first | refine Wl.moveE (by conv => { lhs; whnf }) ?_ | refine Wl.nil ?_ | refine Qseq.normal ?_ | refine Wc.seq ?_ | refine Wc.region ?_ | refine Wc.skip ?_ | refine Wc.condF rfl ?_))
      refine Wl.convI rfl ?_
      have e1 : IntKind.u64.wrap ((n : Int) * IntKind.u64.wrap 16) = ((16 * n : Nat) : Int) := by
        rw [show IntKind.u64.wrap 16 = 16 by decide, wrap_u rfl (by omega) (by simp only [IntKind.bits]; omega)]; omega
      have e2 : IntKind.u64.wrap (d : Int) = (d : Int) := wrap_u rfl (by omega) (by simp only [IntKind.bits]; omega)
      have e3 : IntKind.u64.wrap (((16 * n : Nat) : Int) + (d : Int)) = ((16 * n + d : Nat) : Int) := by
        rw [wrap_u rfl (by omega) (by simp only [IntKind.bits]; omega)]; omega
      refine Wl.mulW rfl rfl ?_
      rw [e1]
      (repeat' (first | refine Wl.moveE (by conv => { lhs; whnf }) ?_ | refine Wl.assignE (by conv => { lhs; whnf }) ?_ | refine Wl.nil ?_ | refine Qseq.normal ?_ | refine Wc.seq ?_ | refine Wc.region ?_))
      refine Wl.convI rfl ?_
      rw [e2]
      refine Wl.addW rfl rfl ?_
      rw [e3]
      clear e1 e2 e3 hv
      (repeat' (first | refine Wl.moveE (by conv => { lhs; whnf }) ?_ | refine Wl.assignE (by conv => { lhs; whnf }) ?_ | refine Wl.nil ?_ | refine Qseq.normal ?_ | refine Wc.seq ?_ | refine Wc.region ?_))
      refine Wl.lss rfl rfl (fun _ => by omega) (fun _ => ?_)
      (repeat' (first | refine Wl.moveE (by conv => { lhs; whnf }) ?_ | refine Wl.guardY rfl rfl ?_))
      by_cases hle : 16 * n + d ≤ mx
      · refine Wl.gtr rfl rfl (fun _ => by omega) (fun _ => ?_)
        (repeat' (first | refine Wl.moveE (by conv => { lhs; whnf }) ?_ | refine Wl.assignE (by conv => { lhs; whnf }) ?_ | refine Wl.nil ?_ | refine Wl.pickFE rfl (by conv => { lhs; whnf }) ?_ | refine Qseq.normal ?_ | refine Wc.region ?_ | refine Wc.skip ?_ | refine Qblk.normal ?_ | refine Wc.condF rfl ?_ | refine Wl.add rfl rfl (by omega) (by omega) ?_))
        rw [if_pos hle] at hg
        exact Qloop.normal (k + 1, 16 * n + d) ⟨rfl, rfl, rfl, rfl, rfl, rfl, rfl, rfl, rfl, trivial⟩ ⟨by dsimp only; omega, hle, hg, rfl⟩ (by dsimp only; omega)
      · refine Wl.gtr rfl rfl (fun _ => ?_) (fun _ => by omega)
        (repeat' (first | refine Wl.moveE (by conv => { lhs; whnf }) ?_ | refine Wl.nil ?_ | refine Wl.pickFE rfl (by conv => { lhs; whnf }) ?_ | refine Qseq.normal ?_ | refine Wc.seq ?_ | refine Wc.region ?_ | refine Wc.condT rfl ?_))
        refine Wl.mkIface rfl ?_
        (repeat' (first | refine Wl.assignE (by conv => { lhs; whnf }) ?_ | refine Wl.nil ?_ | refine Qseq.normal ?_ | refine Wc.ret ?_ | refine Qseq.ret ?_ | refine Qblk.ret ?_ | refine Qloop.ret ?_))
        rw [if_neg hle] at hg
        exact Qfn.ret2 rfl rfl rfl ⟨_, rfl, by rw [hg]; exact ⟨mx, 1, rfl, .inl rfl⟩, n1⟩
    by_cases hlet : 97 ≤ loB c ∧ loB c ≤ 122
    · obtain ⟨h1, h2⟩ := hlet
      unfold puGo at hg
      rw [hexv_let hdig h1 h2] at hg
      obtain ⟨d, hd⟩ : ∃ d, d = loB c - 87 := ⟨_, rfl⟩
      have hv : IntKind.u8.wrap (IntKind.u8.wrap ((loB c : Int) - 97) + 10) = (d : Int) := by rw [IntKind.wrap_u8, IntKind.wrap_u8]; omega
      have h95 : c.toNat ≠ 95 := fun e => by rcases (loB_spec c).2.2.1 ⟨h1, h2⟩ with h | h <;> omega
      (repeat' (first | refine Wl.moveE (by conv => { lhs; whnf }) ?_ | refine Wl.assignE (by conv => { lhs; whnf }) ?_ | refine Wl.nil ?_ | refine Wl.guardY rfl rfl ?_ | refine Wl.guardN rfl rfl ?_ | refine Wl.pickTE rfl (by conv => { lhs; whnf }) ?_ | refine Wl.pickFE rfl (by conv => { lhs; whnf }) ?_ | refine Qseq.normal ?_ | refine Wc.seq ?_ | refine Wc.region ?_ | refine Wc.block ?_ | refine Wc.condF rfl ?_ | (refine Wl.leq rfl rfl (fun _ => ?_) (fun _ => ?_) <;> (first | (exfalso; omega) | skip)) | (refine Wl.eql rfl rfl (fun _ => ?_) (fun _ => ?_) <;> (first | (exfalso; omega) | skip))))
      refine Wl.call (lower_spec c) rfl ?_
      rintro _ _ ⟨rfl, rfl⟩
      (repeat' (first | refine Wl.moveE (by conv => { lhs; whnf }) ?_ | refine Wl.guardY rfl rfl ?_ | (refine Wl.leq rfl rfl (fun _ => ?_) (fun _ => ?_) <;> (first | (exfalso; omega) | skip))))
      refine Wl.call (lower_spec c) rfl ?_
      rintro _ _ ⟨rfl, rfl⟩
      (repeat' (first | refine Wl.moveE (by conv => { lhs; whnf }) ?_ | refine Wl.assignE (by conv => { lhs; whnf }) ?_ | refine Wl.nil ?_ | refine Wl.guardY rfl rfl ?_ | refine Wl.pickTE rfl (by conv => { lhs; whnf }) ?_ | refine Qseq.normal ?_ | refine Wc.region ?_ | refine Wc.condT rfl ?_ | (refine Wl.leq rfl rfl (fun _ => ?_) (fun _ => ?_) <;> (first | (exfalso; omega) | skip))))
      refine Wl.call (lower_spec c) rfl ?_
      rintro _ _ ⟨rfl, rfl⟩
      skip
      refine Wl.subW rfl rfl ?_
      refine Wl.addW rfl rfl ?_
      rw [hv]
      (repeat' (first | refine Wl.moveE (by conv => { lhs; whnf }) ?_ | refine Wl.assignE (by conv => { lhs; whnf }) ?_ | refine Wl.nil ?_ | refine Qseq.normal ?_ | refine Wc.seq ?_ | refine Wc.region ?_ | refine Qblk.normal ?_))
      refine Wl.convI rfl ?_
      rw [show IntKind.u8.wrap 16 = 16 by decide]
      by_cases h102 : loB c ≤ 102
      rotate_left
      · rw [if_neg h102] at hg
        refine Wl.geq rfl rfl (fun _ => ?_) (fun _ => by omega)
        (repeat' (first | refine Wl.nil ?_ | refine Qseq.normal ?_ | refine Wc.seq ?_ | refine Wc.region ?_ | refine Wc.condT rfl ?_))
        refine Wl.mkIface rfl ?_
        (repeat' (first | refine Wl.assignE (by conv => { lhs; whnf }) ?_ | refine Wl.nil ?_ | refine Qseq.normal ?_ | refine Wc.ret ?_ | refine Qseq.ret ?_ | refine Qblk.ret ?_ | refine Qloop.ret ?_))
        exact Qfn.ret2 rfl rfl rfl ⟨_, rfl, by rw [hg]; exact ⟨0, 2, rfl, .inr rfl⟩, n1⟩
      rw [if_pos h102, ← hd] at hg
      dsimp only at hg
      refine Wl.geq rfl rfl (fun _ => by omega) (fun _ => ?_)
      (repeat' (first | refine Wl.moveE (by conv => { lhs; whnf }) ?_ | refine Wl.nil ?_ | refine Qseq.normal ?_ | refine Wc.seq ?_ | refine Wc.region ?_ | refine Wc.skip ?_ | refine Wc.condF rfl ?_))
      refine Wl.geq rfl rfl (fun _ => by omega) (fun _ => ?_)
      (repeat' (first | refine Wl.moveE (by conv => { lhs; whnf }) ?_ | refine Wl.nil ?_ | refine Qseq.normal ?_ | refine Wc.seq ?_ | refine Wc.region ?_ | refine Wc.skip ?_ | refine Wc.condF rfl ?_))
      refine Wl.convI rfl ?_
      have e1 : IntKind.u64.wrap ((n : Int) * IntKind.u64.wrap 16) = ((16 * n : Nat) : Int) := by
        rw [show IntKind.u64.wrap 16 = 16 by decide, wrap_u rfl (by omega) (by simp only [IntKind.bits]; omega)]; omega
      have e2 : IntKind.u64.wrap (d : Int) = (d : Int) := wrap_u rfl (by omega) (by simp only [IntKind.bits]; omega)
      have e3 : IntKind.u64.wrap (((16 * n : Nat) : Int) + (d : Int)) = ((16 * n + d : Nat) : Int) := by
        rw [wrap_u rfl (by omega) (by simp only [IntKind.bits]; omega)]; omega
      refine Wl.mulW rfl rfl ?_
      rw [e1]
      (repeat' (first | refine Wl.moveE (by conv => { lhs; whnf }) ?_ | refine Wl.assignE (by conv => { lhs; whnf }) ?_ | refine Wl.nil ?_ | refine Qseq.normal ?_ | refine Wc.seq ?_ | refine Wc.region ?_))
      refine Wl.convI rfl ?_
      rw [e2]
      refine Wl.addW rfl rfl ?_
      rw [e3]
      clear e1 e2 e3 hv
      (repeat' (first | refine Wl.moveE (by conv => { lhs; whnf }) ?_ | refine Wl.assignE (by conv => { lhs; whnf }) ?_ | refine Wl.nil ?_ | refine Qseq.normal ?_ | refine Wc.seq ?_ | refine Wc.region ?_))
      refine Wl.lss rfl rfl (fun _ => by omega) (fun _ => ?_)
      (repeat' (first | refine Wl.moveE (by conv => { lhs; whnf }) ?_ | refine Wl.guardY rfl rfl ?_))
      by_cases hle : 16 * n + d ≤ mx
      · refine Wl.gtr rfl rfl (fun _ => by omega) (fun _ => ?_)
        (repeat' (first | refine Wl.moveE (by conv => { lhs; whnf }) ?_ | refine Wl.assignE (by conv => { lhs; whnf }) ?_ | refine Wl.nil ?_ | refine Wl.pickFE rfl (by conv => { lhs; whnf }) ?_ | refine Qseq.normal ?_ | refine Wc.region ?_ | refine Wc.skip ?_ | refine Qblk.normal ?_ | refine Wc.condF rfl ?_ | refine Wl.add rfl rfl (by omega) (by omega) ?_))
        rw [if_pos hle] at hg
        exact Qloop.normal (k + 1, 16 * n + d) ⟨rfl, rfl, rfl, rfl, rfl, rfl, rfl, rfl, rfl, trivial⟩ ⟨by dsimp only; omega, hle, hg, rfl⟩ (by dsimp only; omega)
      · refine Wl.gtr rfl rfl (fun _ => ?_) (fun _ => by omega)
        (repeat' (first | refine Wl.moveE (by conv => { lhs; whnf }) ?_ | refine Wl.nil ?_ | refine Wl.pickFE rfl (by conv => { lhs; whnf }) ?_ | refine Qseq.normal ?_ | refine Wc.seq ?_ | refine Wc.region ?_ | refine Wc.condT rfl ?_))
        refine Wl.mkIface rfl ?_
        (repeat' (first | refine Wl.assignE (by conv => { lhs; whnf }) ?_ | refine Wl.nil ?_ | refine Qseq.normal ?_ | refine Wc.ret ?_ | refine Qseq.ret ?_ | refine Qblk.ret ?_ | refine Qloop.ret ?_))
        rw [if_neg hle] at hg
        exact Qfn.ret2 rfl rfl rfl ⟨_, rfl, by rw [hg]; exact ⟨mx, 1, rfl, .inl rfl⟩, n1⟩
    · unfold puGo at hg
      rw [hexv_none hdig hlet] at hg
      dsimp only at hg
      (repeat' (first | refine Wl.moveE (by conv => { lhs; whnf }) ?_ | refine Wl.assignE (by conv => { lhs; whnf }) ?_ | refine Wl.nil ?_ | refine Wl.guardY rfl rfl ?_ | refine Wl.guardN rfl rfl ?_ | refine Wl.pickTE rfl (by conv => { lhs; whnf }) ?_ | refine Wl.pickFE rfl (by conv => { lhs; whnf }) ?_ | refine Qseq.normal ?_ | refine Wc.seq ?_ | refine Wc.region ?_ | refine Wc.block ?_ | refine Wc.condF rfl ?_ | (refine Wl.leq rfl rfl (fun _ => ?_) (fun _ => ?_) <;> (first | (exfalso; omega) | skip)) | refine Wl.eql rfl rfl (fun _ => ?_) (fun _ => ?_)))
      all_goals
        refine Wl.call (lower_spec c) rfl ?_
        rintro _ _ ⟨rfl, rfl⟩
        (repeat' (first | refine Wl.moveE (by conv => { lhs; whnf }) ?_ | refine Wl.assignE (by conv => { lhs; whnf }) ?_ | refine Wl.nil ?_ | refine Wl.guardY rfl rfl ?_ | refine Wl.guardN rfl rfl ?_ | refine Wl.pickFE rfl (by conv => { lhs; whnf }) ?_ | refine Qseq.normal ?_ | refine Wc.seq ?_ | refine Wc.region ?_ | refine Wc.condF rfl ?_ | refine Wl.leq rfl rfl (fun _ => ?_) (fun _ => ?_)))
      all_goals first
        | refine Wl.mkIface rfl ?_
        | (refine Wl.call (lower_spec c) rfl ?_
           rintro _ _ ⟨rfl, rfl⟩
           (repeat' (first | refine Wl.assignE (by conv => { lhs; whnf }) ?_ | refine Wl.nil ?_ | refine Wl.guardY rfl rfl ?_ | refine Wl.pickTE rfl (by conv => { lhs; whnf }) ?_ | refine Qseq.normal ?_ | refine Wc.seq ?_ | refine Wc.region ?_ | refine Wc.condF rfl ?_ | (refine Wl.leq rfl rfl (fun _ => ?_) (fun _ => ?_) <;> (first | (exfalso; omega) | skip))))
           refine Wl.mkIface rfl ?_)
      all_goals
        (repeat' (first | refine Wl.assignE (by conv => { lhs; whnf }) ?_ | refine Wl.nil ?_ | refine Qseq.normal ?_ | refine Wc.ret ?_ | refine Qseq.ret ?_ | refine Qblk.ret ?_ | refine Qloop.ret ?_))
        exact Qfn.ret2 rfl rfl rfl ⟨_, rfl, by rw [hg]; exact ⟨0, 2, rfl, .inr rfl⟩, n1⟩
  · have e : k = s.length := by omega
    subst e
    rw [List.drop_length] at hg
    refine Qfn.ret2 rfl rfl rfl ⟨_, rfl, ?_, n1⟩
    rw [hg]
    exact rfl
/-- The errors' variables, as they lie in memory. -/
def ErrV (w : World) : Prop := ∀ g, g = 1 ∨ g = 2 → g < w.heap.size ∧ ∃ te pe, w.cell? ⟨g, 0, none⟩ = some (.iface te pe)
theorem ErrV.new {w w' : World} (h : ErrV w) (n : New w w') : ErrV w' := fun g hg => by
  obtain ⟨h1, te, pe, h2⟩ := h g hg
  refine ⟨Nat.lt_of_lt_of_le h1 n.size, te, pe, ?_⟩
  have := n.block g h1 id
  simp only [World.cell?] at h2 ⊢
  rw [this]; exact h2
/-- A parsed number, or an error. -/
def PuX (o : Option Nat) (r : Value) : Prop := match o with
  | some N => r = .tuple #[.int .u64 N, Value.nilIface]
  | none => ∃ (m : Int) (t : TypeId) (v : Value), r = .tuple #[.int .u64 m, .iface t v]
theorem Parse_spec {w : World} {s : List UInt8} {bits mx : Nat} (he : ErrV w) (hb : bits = 8 ∧ mx = 255 ∨ bits = 32 ∧ mx = 4294967295) (hsl : s.length ≤ 1000000000) :
    Calls Tryz.prog 41 #[vs s, vi 16, vi bits] w (Ret fun r w' => PuX (puR mx s) r ∧ New w w') := by
  refine calls_of_Wc Tryz.func41 rfl Tryz.ntmps41 rfl ?_
  (repeat' (first | refine Wl.moveE (by conv => { lhs; whnf }) ?_ | refine Wl.assignE (by conv => { lhs; whnf }) ?_ | refine Wl.nil ?_ | refine Qseq.normal ?_ | refine Wc.seq ?_ | refine Wc.region ?_))
  refine Wl.call (iParse_spec hb hsl) rfl ?_
  rintro r w1 ⟨hr, n1⟩
  cases ho : puR mx s with
  | some N =>
    rw [ho] at hr
    replace hr : r = .tuple #[.int .u64 N, Value.nilIface] := hr
    subst hr
    (repeat' (first | refine Wl.moveE (by conv => { lhs; whnf }) ?_ | refine Wl.assignE (by conv => { lhs; whnf }) ?_ | refine Wl.nil ?_ | refine Wl.extract rfl rfl ?_ | refine Qseq.normal ?_ | refine Wc.seq ?_ | refine Wc.region ?_))
    refine Wl.ineNil rfl ?_
    (repeat' (first | refine Wl.moveE (by conv => { lhs; whnf }) ?_ | refine Wl.assignE (by conv => { lhs; whnf }) ?_ | refine Wl.nil ?_ | refine Qseq.normal ?_ | refine Wc.seq ?_ | refine Wc.region ?_ | refine Wc.skip ?_ | refine Wc.ret ?_ | refine Wc.condF rfl ?_))
    exact Qfn.ret2 rfl rfl rfl ⟨_, rfl, rfl, n1⟩
  | none =>
    rw [ho] at hr
    obtain ⟨m, k, rfl, hk⟩ := hr
    have hs2 : (⟨s.toArray⟩ : ByteArray).size ≤ 281474976710656 := by show s.toArray.size ≤ _; simp; omega
    (repeat' (first | refine Wl.moveE (by conv => { lhs; whnf }) ?_ | refine Wl.assignE (by conv => { lhs; whnf }) ?_ | refine Wl.nil ?_ | refine Wl.extract rfl rfl ?_ | refine Qseq.normal ?_ | refine Wc.seq ?_ | refine Wc.region ?_))
    refine Wl.ineHeld rfl ?_
    (repeat' (first | refine Wl.moveE (by conv => { lhs; whnf }) ?_ | refine Wl.nil ?_ | refine Qseq.normal ?_ | refine Wc.seq ?_ | refine Wc.region ?_ | refine Wc.condT rfl ?_))
    rcases hk with rfl | rfl
    · obtain ⟨_, te, pe, hc⟩ := he.new n1 2 (.inr rfl)
      refine Wl.call (φ := fun r w' => (∃ t v, r = .iface t v) ∧ New w1 w') ((Tryz.strconv_toError_range ⟨#[80, 97, 114, 115, 101, 85, 105, 110, 116]⟩ ⟨s.toArray⟩ 16 bits _ w1 hs2 hc (.inr ⟨_, _, rfl⟩)).mono ?_) rfl ?_
      · rintro e w2 ⟨N, rfl, _, _, hB⟩
        exact ⟨_, rfl, ⟨_, _, rfl⟩, New.ofBelow hB⟩
      rintro _ w2 ⟨⟨t, v, rfl⟩, n2⟩
      (repeat' (first | refine Wl.assignE (by conv => { lhs; whnf }) ?_ | refine Wl.nil ?_ | refine Qseq.normal ?_ | refine Wc.ret ?_ | refine Qseq.ret ?_))
      exact Qfn.ret2 rfl rfl rfl ⟨_, rfl, ⟨m, t, v, rfl⟩, n1.trans n2⟩
    · obtain ⟨_, te, pe, hc⟩ := he.new n1 1 (.inl rfl)
      refine Wl.call (φ := fun r w' => (∃ t v, r = .iface t v) ∧ New w1 w') ((Tryz.strconv_toError_syntax ⟨#[80, 97, 114, 115, 101, 85, 105, 110, 116]⟩ ⟨s.toArray⟩ 16 bits _ w1 hs2 hc (.inr ⟨_, _, rfl⟩)).mono ?_) rfl ?_
      · rintro e w2 ⟨N, rfl, _, _, hB⟩
        exact ⟨_, rfl, ⟨_, _, rfl⟩, New.ofBelow hB⟩
      rintro _ w2 ⟨⟨t, v, rfl⟩, n2⟩
      (repeat' (first | refine Wl.assignE (by conv => { lhs; whnf }) ?_ | refine Wl.nil ?_ | refine Qseq.normal ?_ | refine Wc.ret ?_ | refine Qseq.ret ?_))
      exact Qfn.ret2 rfl rfl rfl ⟨_, rfl, ⟨m, t, v, rfl⟩, n1.trans n2⟩
end Go.Proofs.YtpnpllghabbhlaaGreatDoor
