/-
  The generic walking kit of this claim: a region that draws its order, whose operations are quiet ones (they read, or call what only makes memory) and a chain of others, one behind another, of which the last comes behind all. It speaks of any program.
-/
import Derived.Test.YtjpebmgllfiloaaDoorQptr
namespace Go.Proofs.YtjpebmgllfiloaaDoor.Wk
open Go Go.RowKit

def QF : Exit → Act → World → Prop := fun _ _ _ => False
/-- Whatever order is picked; every operation but 'last' leaves a world of the class. -/
def wpAnyM (P : Program) (ops : Array Oper) (C : World → Prop) (last : Nat) (Q : Exit → Act → World → Prop) : Nat → Array Bool → Act → World → Prop
  | 0, listed, a, w => Region.ready .any ops listed = [] ∧ Q .normal a w
  | fuel + 1, listed, a, w =>
    (Region.ready .any ops listed = [] → Q .normal a w) ∧
    ∀ i ∈ Region.ready .any ops listed, (i ≠ last → wpOp P ops QF i (fun a' w' => C w' ∧ wpAnyM P ops C last Q fuel (listed.setIfInBounds i true) a' w') a w) ∧
      (i = last → wpOp P ops Q i (wpAnyM P ops C last Q fuel (listed.setIfInBounds i true)) a w)
section
variable {P : Program} {ops : Array Oper} {C : World → Prop} {last : Nat} {Q : Exit → Act → World → Prop}

theorem wpOp_of_QF {i : Nat} {K K' : Act → World → Prop} {a : Act} {w : World} (hK : ∀ a w, K a w → K' a w) (h : wpOp P ops QF i K a w) : wpOp P ops Q i K' a w := by
  unfold wpOp at h ⊢
  split
  · rename_i ho; simp only [ho] at h; exact hK _ _ h
  · rename_i o ho
    simp only [ho] at h
    split
    · rename_i hw
      simp only [hw, if_true] at h
      rcases h with h | ⟨_, a₀, w₀, hq⟩
      · refine .inl ?_
        unfold Oper.wp at *
        generalize (execOp a.eval o).run P w = r at *
        cases r with
        | ok nx w' =>
          cases nx <;> simp only [Oper.upon] at h ⊢ <;>
            first
              | exact hK _ _ h
              | exact Calls.mono h (fun e w'' he => by cases e <;> first | exact hK _ _ he | exact he.elim | (obtain ⟨a₀, w₀, hq⟩ := he; exact hq.elim))
              | exact Rows.mono h (fun _ _ he => hK _ _ he)
        | halt x w' => cases x <;> simp only [Oper.upon] at h ⊢ <;> exact h.elim
      · exact hq.elim
    · rename_i hw
      simp only [hw] at h
      exact hK _ _ h
theorem wpAny_of_M : ∀ (fuel : Nat) (listed : Array Bool) (a : Act) (w : World), wpAnyM P ops C last Q fuel listed a w → wpAny P .any ops Q fuel listed a w
  | 0, _, _, _, h => h
  | fuel + 1, listed, a, w, h => ⟨h.1, fun i hi => by
      by_cases hil : i = last
      · have := (h.2 i hi).2 hil
        refine wpOp_mono (fun a' w' h' => wpAny_of_M fuel _ a' w' h') this
      · exact wpOp_of_QF (fun a' w' h' => wpAny_of_M fuel _ a' w' h'.2) ((h.2 i hi).1 hil)⟩
/-- An operation apart from a quiet one. -/
theorem wpOp_put {j : Nat} {oi oj : Oper} {v : Value} (hj : ops[j]? = some oj) (hap : oi.apart ops oj = true)
    (hsi : ∀ cs b, oi.op ≠ .select cs b) (hsj : ∀ cs b, oj.op ≠ .select cs b) {K : Act → World → Prop} {a : Act} {w : World} (hy : YieldsIn P ops C oi v a) (h : wpOp P ops QF j K (a.put oi.dst v) w) :
    wpOp P ops QF j (fun a' w' => YieldsIn P ops C oi v a' ∧ K (a'.put oi.dst v) w') a w := by
  obtain ⟨h1, h2, h3⟩ := Oper.apart_spec hap
  have keep : ∀ (a : Act), YieldsIn P ops C oi v a → ∀ u, YieldsIn P ops C oi v (a.put oj.dst u) := fun a hy u =>
    hy.of_same (execOp_put oi hsi a oj.dst u h3) (wanted_put oi a oj.dst u h3)
  have both : ∀ u w', K ((a.put oi.dst v).put oj.dst u) w' → YieldsIn P ops C oi v (a.put oj.dst u) ∧ K ((a.put oj.dst u).put oi.dst v) w' := fun u w' hk => ⟨keep a hy u, by rw [← Act.put_comm a v u h2]; exact hk⟩
  unfold wpOp at *
  simp only [hj] at *
  rw [wanted_put oj a oi.dst v h1] at h
  split
  · rename_i hw
    simp only [hw, if_true] at h
    rcases h with h | ⟨_, a₀, w₀, hq⟩
    · refine .inl ?_
      unfold Oper.wp at *
      rw [execOp_put oj hsj a oi.dst v h1] at h
      generalize (execOp a.eval oj).run P w = r at *
      cases r with
      | ok nx w' =>
        cases nx with
        | value u => exact both _ _ h
        | skip => exact both _ _ h
        | enter f args => exact Calls.mono h (fun e w'' he => by cases e with | returned u => exact both _ _ he | panicked c => exact he.elim | outgrown => obtain ⟨a₀, w₀, hq⟩ := he; exact hq.elim)
        | row r' args => exact Rows.mono h (fun _ _ he => both _ _ he)
        | defer d =>
          simp only [Oper.upon] at h ⊢
          refine ⟨?_, ?_⟩
          · have h5 : ∀ u, YieldsIn P ops C oi v (({ a with defers := d :: a.defers } : Act).put oj.dst u) := by
              intro u
              have h6 := keep a hy u
              exact h6.of_same (by congr 1; funext x; cases oj.dst <;> cases x <;> rfl) (by cases oj.dst <;> rfl)
            exact h5 _
          · have : ({ (a.put oi.dst v) with defers := d :: (a.put oi.dst v).defers } : Act).put oj.dst undef = (({ a with defers := d :: a.defers } : Act).put oj.dst undef).put oi.dst v := by
              rw [← Act.put_comm _ v undef h2]; cases oi.dst <;> rfl
            rw [← this]; exact h
        | _ => exact h.elim
      | halt x w' => cases x <;> exact h.elim
    · exact hq.elim
  · rename_i hw
    simp only [hw] at h
    exact both _ _ h

def Clos (ops : Array Oper) (listed : Array Bool) : Prop := ∀ (j : Nat) (o : Oper), listed.getD j false = true → ops[j]? = some o → ∀ e ∈ o.after, Region.binds .any e = true → listed.getD e.on false = true
theorem Clos.set {listed : Array Bool} (h : Clos ops listed) {i : Nat} (hi : i ∈ Region.ready .any ops listed) : Clos ops (listed.setIfInBounds i true) := by
  intro j o hj ho e he hb
  obtain ⟨_, oi, hoi, hall⟩ := mem_ready.1 hi
  by_cases hji : i = j
  · subst hji; rw [hoi] at ho; cases ho; exact getD_set_true (hall e he hb)
  · rw [getD_set_ne false hji] at hj; exact getD_set_true (h j o hj ho e he hb)

/-! An operation that enters no function: one that is quiet leaves the very world. -/
def readB : Op → Bool
  | .move _ | .assign _ | .pick .. | .load .. | .binOp .. | .unOp .. | .convert .. | .slice .. | .fieldAddr .. | .field .. | .indexAddr .. | .index .. | .lookup .. | .extract .. | .nilCheck _ => true
  | .call c => match c.callee with | .builtin .len => true | _ => false
  | _ => false
theorem run_v_ne {s : Sem Value} {w w' : World} {f : FuncId} {args : Array Value} : (do pure (Next.value (← s)) : Sem Next).run P w ≠ .ok (.enter f args) w' := by
  simp only [Sem.run_bind]
  cases s.run P w with
  | ok v w1 => simp
  | halt x w1 => simp [Result.andThen]
theorem run_bind_ne {α : Type} {s : Sem α} {k : α → Sem Next} {w w' : World} {f : FuncId} {args : Array Value} (h : ∀ x w1, (k x).run P w1 ≠ .ok (.enter f args) w') : (s >>= k).run P w ≠ .ok (.enter f args) w' := by
  simp only [Sem.run_bind]
  cases s.run P w with
  | ok v w1 => exact h v w1
  | halt x w1 => simp [Result.andThen]
theorem panic_ne {w w' : World} {f : FuncId} {args : Array Value} : (runtimePanic .nilDeref : Sem Next).run P w ≠ .ok (.enter f args) w' := by
  unfold runtimePanic
  exact run_bind_ne fun x w1 => by simp [goPanic]
theorem noEnter {o : Oper} (h : readB o.op = true) {ρ : Operand → Value} {w w' : World} {f : FuncId} {args : Array Value} : (execOp ρ o).run P w ≠ .ok (.enter f args) w' := by
  obtain ⟨dst, op, ty, pos, after, guard⟩ := o
  cases op <;> simp only [readB] at h <;> first | (cases h; done) | skip
  case call c =>
    obtain ⟨callee, cargs, ats⟩ := c
    cases callee with
    | builtin b =>
      cases b <;> simp only at h <;> first | (cases h; done) | skip
      simp only [execOp, resolve, Sem.run_bind, Sem.run_pure, Result.andThen_ok, invoke, builtin]
      generalize Sem.run P _ w = r
      cases r <;> simp [Result.andThen]
    | _ => cases h
  all_goals simp only [execOp]
  all_goals first | exact run_v_ne | skip
  · simp
  · simp
  · simp only [Sem.run_bind]
    generalize (asBool _).run P w = r
    cases r <;> simp [Result.andThen]
  · split
    · exact panic_ne
    · exact panic_ne
    · exact panic_ne
    · split
      · exact panic_ne
      · refine run_bind_ne fun x w1 => run_bind_ne fun y w2 => ?_
        split
        · exact run_bind_ne fun x w1 => by simp
        · simp
      · simp
    · simp

/-- The quiet operation leaves the very world. -/
def YieldsS (P : Program) (ops : Array Oper) (C : World → Prop) (o : Oper) (v : Value) (a : Act) : Prop := YieldsIn P ops C o v a ∧ readB o.op = true
theorem YieldsS.wpOp {i : Nat} {o : Oper} {v : Value} {a : Act} {w : World} (hi : ops[i]? = some o) (hy : YieldsIn P ops C o v a) (hr : readB o.op = true) (hC : C w) {K : Act → World → Prop} (h : K (a.put o.dst v) w) : wpOp P ops Q i K a w := by
  unfold Go.wpOp
  simp only [hi]
  rcases hy with ⟨hw, hv⟩ | ⟨hw, rfl⟩
  · simp only [hw, if_true]
    refine .inl ?_
    have h3 := hv w hC
    unfold Oper.quietAt at h3
    unfold Oper.wp
    have hne := @noEnter P o hr a.eval w
    generalize (execOp a.eval o).run P w = r at *
    cases r with
    | ok n w' =>
      cases n <;> simp only [Oper.quietUpon] at h3 <;> simp only [Oper.upon]
      case value u =>
        obtain ⟨e1, e2⟩ := h3
        rw [e1, e2]
        exact h
      case skip =>
        obtain ⟨e1, e2⟩ := h3
        rw [e1, ← e2]
        exact h
      case enter f args => exact (hne rfl).elim
    | halt x w' => simp only [Oper.quietUpon] at h3
  · simp only [hw, Bool.false_eq_true, if_false]; exact h

theorem wpAnyM_first {i : Nat} {oi : Oper} {v : Value} (hi : ops[i]? = some oi) (hr : readB oi.op = true) (hsel : ∀ (j : Nat) (o : Oper) cs b, ops[j]? = some o → o.op ≠ .select cs b) (hil : i ≠ last)
    (HL : ∀ listed : Array Bool, Clos ops listed → last ∈ Region.ready .any ops listed → listed.getD i true = true) :
    ∀ (fuel : Nat) (listed : Array Bool) (a : Act) (w : World), Clos ops listed → C w →
      (∀ j oj, ops[j]? = some oj → j ≠ i → listed.getD j true = false → (∀ e ∈ oj.after, Region.binds .any e = true → e.on ≠ i) → oi.apart ops oj = true) →
      i ∈ Region.ready .any ops listed → YieldsIn P ops C oi v a →
      wpAnyM P ops C last Q fuel (listed.setIfInBounds i true) (a.put oi.dst v) w → wpAnyM P ops C last Q (fuel + 1) listed a w := by
  intro fuel
  have notLast : ∀ listed : Array Bool, Clos ops listed → i ∈ Region.ready .any ops listed → ∀ j, j ∈ Region.ready .any ops listed → j ≠ last := by
    intro listed hc hr j hj e
    subst e
    have := HL listed hc hj
    rw [(mem_ready.1 hr).1] at this
    cases this
  induction fuel with
  | zero =>
    intro listed a w hc hC _ hrd hy H
    refine ⟨fun h => (by rw [h] at hrd; cases hrd), fun j hj => ⟨fun _ => ?_, fun e => absurd e (notLast listed hc hrd j hj)⟩⟩
    by_cases hji : j = i
    · subst hji; exact YieldsS.wpOp hi hy hr hC ⟨hC, H⟩
    · have := ready_mono hj hji
      rw [H.1] at this
      cases this
  | succ fuel ih =>
    intro listed a w hc hC hfree hrd hy H
    refine ⟨fun h => (by rw [h] at hrd; cases hrd), fun j hj => ⟨fun hjl => ?_, fun e => absurd e (notLast listed hc hrd j hj)⟩⟩
    by_cases hji : j = i
    · subst hji; exact YieldsS.wpOp hi hy hr hC ⟨hC, H⟩
    · have h1 := (H.2 j (ready_mono hj hji)).1 hjl
      obtain ⟨hjun, oj, hoj, hall⟩ := mem_ready.1 hj
      have hnot : ∀ e ∈ oj.after, Region.binds .any e = true → e.on ≠ i := fun e he hb heq => by
        have h1 := hall e he hb
        have h0 := (mem_ready.1 hrd).1
        rw [heq] at h1
        rcases Nat.lt_or_ge i listed.size with h' | h'
        · simp [h'] at h0 h1; rw [h0] at h1; cases h1
        · simp [Array.getElem?_eq_none h'] at h1
      have h2 := wpOp_put hoj (hfree j oj hoj hji hjun hnot) (fun cs b => hsel i oi cs b hi) (fun cs b => hsel j oj cs b hoj) hy h1
      have hfree' : ∀ k ok, ops[k]? = some ok → k ≠ i → (listed.setIfInBounds j true).getD k true = false →
          (∀ e ∈ ok.after, Region.binds .any e = true → e.on ≠ i) → oi.apart ops ok = true := fun k ok hk hki hun hno => by
        refine hfree k ok hk hki ?_ hno
        by_cases hjk : j = k
        · subst hjk; exact hjun
        · rw [getD_set_ne true hjk] at hun; exact hun
      refine wpOp_mono (fun a' w' h3 => ⟨h3.2.1, ih (listed.setIfInBounds j true) a' w' (hc.set hj) h3.2.1 hfree' (ready_mono hrd (Ne.symm hji)) h3.1 ?_⟩) h2
      rw [Array.setIfInBounds_comm _ _ hji]
      exact h3.2.2

/-! The quiet ones, in the text's order, then the chain. -/
def quietOk (ops : Array Oper) (last : Nat) : List Nat → Array Bool → Bool
  | [], _ => true
  | k :: r, listed => (Region.ready .any ops listed).contains k && Region.free .any ops listed k && k != last && (match ops[k]? with | some o => readB o.op | none => false) && quietOk ops last r (listed.setIfInBounds k true)
def setAllB : List Nat → Array Bool → Array Bool
  | [], l => l
  | k :: r, l => setAllB r (l.setIfInBounds k true)
theorem clos_setAll : ∀ (qs : List Nat) (listed : Array Bool), Clos ops listed → quietOk ops last qs listed = true → Clos ops (setAllB qs listed)
  | [], _, h, _ => h
  | k :: r, listed, h, hq => by
    simp only [quietOk, Bool.and_eq_true] at hq
    exact clos_setAll r _ (h.set (by simpa using hq.1.1.1.1)) hq.2
theorem wpAnyM_quiet (hsel : ∀ (j : Nat) (o : Oper) cs b, ops[j]? = some o → o.op ≠ .select cs b)
    (HL : ∀ listed : Array Bool, Clos ops listed → last ∈ Region.ready .any ops listed → ∀ i, i ≠ last → i < ops.size → listed.getD i true = true) (m : Nat) :
    ∀ (qs : List Nat) (lq : List Oper) (listed : Array Bool) (a : Act) (w : World), qs.map (fun k => ops[k]?) = lq.map some → quietOk ops last qs listed = true → Clos ops listed → C w →
      wpQuiet P ops C (fun a' => wpAnyM P ops C last Q m (setAllB qs listed) a' w) lq a → wpAnyM P ops C last Q (qs.length + m) listed a w
  | [], [], listed, a, w, _, _, _, hC, h => by simpa [setAllB, wpQuiet] using h
  | [], _ :: _, _, _, _, h, _, _, _, _ => by simp at h
  | _ :: _, [], _, _, _, h, _, _, _, _ => by simp at h
  | k :: r, o :: lq, listed, a, w, hm, hq, hc, hC, h => by
    simp only [List.map_cons, List.cons.injEq] at hm
    simp only [quietOk, Bool.and_eq_true, hm.1] at hq
    obtain ⟨⟨⟨⟨h1, h2⟩, h3⟩, h4⟩, h5⟩ := hq
    have hrd : k ∈ Region.ready .any ops listed := by simpa using h1
    have hkl : k ≠ last := by simpa using h3
    have hst : qOp P ops C k (wpQuiet P ops C (fun a' => wpAnyM P ops C last Q m (setAllB r (listed.setIfInBounds k true)) a' w) lq) a := by unfold qOp; simp only [hm.1]; exact h
    obtain ⟨v, hy, hK⟩ := yieldsIn_of_qOp hm.1 hst
    have e : (k :: r).length + m = (r.length + m) + 1 := by simp; omega
    rw [e]
    exact wpAnyM_first hm.1 h4 hsel hkl (fun l hl hr => HL l hl hr k hkl (Array.getElem?_eq_some_iff.1 hm.1).1) _ listed a w hc hC (Region.free_spec hm.1 h2) hrd hy
      (wpAnyM_quiet hsel HL m r lq _ _ w hm.2 h5 (hc.set hrd) hC hK)

def chainOk (ops : Array Oper) (last : Nat) : List Nat → Array Bool → Bool
  | [], listed => (Region.ready .any ops listed).isEmpty
  | k :: r, listed => Region.ready .any ops listed == [k] && (k == last) == r.isEmpty && chainOk ops last r (listed.setIfInBounds k true)
/-- Whoever must come ahead of the last. -/
def ahead (ops : Array Oper) : Nat → List Nat → List Nat
  | 0, S => S
  | f + 1, S => ahead ops f (S ++ (S.flatMap fun k => match ops[k]? with | some o => (o.after.toList.filter fun e => Region.binds .any e).map (·.on) | none => []).eraseDups)
theorem ahead_spec {listed : Array Bool} (hc : Clos ops listed) (hr : last ∈ Region.ready .any ops listed) : ∀ (f : Nat) (S : List Nat), (∀ k ∈ S, k = last ∨ listed.getD k false = true) → ∀ k ∈ ahead ops f S, k = last ∨ listed.getD k false = true
  | 0, S, h, k, hk => h k hk
  | f + 1, S, h, k, hk => by
    refine ahead_spec hc hr f _ ?_ k hk
    intro j hj
    rcases List.mem_append.1 hj with hj | hj
    · exact h j hj
    · rw [List.mem_eraseDups, List.mem_flatMap] at hj
      obtain ⟨i, hi, hj⟩ := hj
      cases ho : ops[i]? with
      | none => rw [ho] at hj; cases hj
      | some o =>
        rw [ho] at hj
        simp only [List.mem_map, List.mem_filter] at hj
        obtain ⟨e, ⟨he, hb⟩, rfl⟩ := hj
        right
        rcases h i hi with rfl | hl
        · obtain ⟨_, o', ho', hall⟩ := mem_ready.1 hr
          rw [ho] at ho'; cases ho'
          exact hall e (by simpa using he) hb
        · exact hc i o hl ho e (by simpa using he) hb
def mixOk (ops : List Oper) (qs cs : List Nat) : Bool :=
  let a := ops.toArray; let l0 := Array.replicate a.size false; let last := cs.getLast?.getD 0
  Region.noSelect a && quietOk a last qs l0 && chainOk a last cs (setAllB qs l0) && qs.length + cs.length == a.size && (let S := ahead a a.size [last]; (List.range a.size).all fun k => S.contains k)
end

section
variable {P : Program} {n : Nat} {ds : List Deferred} {Q : Po} {F : Fr} {ops : List Oper} {C : World → Prop}
/-- The chain, one behind another: each leaves a world of the class, but for the last. -/
def Wch (P : Program) (n : Nat) (ds : List Deferred) (C : World → Prop) (Q : Po) (ops : List Oper) : List Oper → Fr → World → Prop
  | [], F, w => Q .normal F w
  | o :: r, F, w => if r.isEmpty then Wl P n ds Q ops [o] F w else Wl P n ds (fun e F' w' => e = .normal ∧ C w' ∧ Wch P n ds C Q ops r F' w') ops [o] F w
theorem Wch.cons {o o2 : Oper} {r : List Oper} {w : World} (h : Wl P n ds (fun e F' w' => e = .normal ∧ C w' ∧ Wch P n ds C Q ops (o2 :: r) F' w') ops [o] F w) : Wch P n ds C Q ops (o :: o2 :: r) F w := h
theorem Wch.last {o : Oper} {w : World} (h : Wl P n ds Q ops [o] F w) : Wch P n ds C Q ops [o] F w := h
theorem wpOp_noQ {a₁ : Array Oper} {Qx : Exit → Act → World → Prop} {i : Nat} {K K' : Act → World → Prop} {a : Act} {w : World} (noQ : ∀ e a w, e ≠ .normal → ¬ Qx e a w) (hK : ∀ a w, K a w → K' a w) (h : wpOp P a₁ Qx i K a w) : wpOp P a₁ QF i K' a w := by
  unfold wpOp at h ⊢
  split
  · rename_i ho; simp only [ho] at h; exact hK _ _ h
  · rename_i o ho
    simp only [ho] at h
    split
    · rename_i hw
      simp only [hw, if_true] at h
      rcases h with h | ⟨_, a₀, w₀, hq⟩
      · refine .inl ?_
        unfold Oper.wp at *
        generalize (execOp a.eval o).run P w = r at *
        cases r with
        | ok nx w' =>
          cases nx <;> simp only [Oper.upon] at h ⊢ <;>
            first
              | exact hK _ _ h
              | exact Calls.mono h (fun e w'' he => by cases e <;> first | exact hK _ _ he | exact absurd he (noQ _ _ _ (by simp)) | (obtain ⟨a₀, w₀, hq⟩ := he; exact absurd hq (noQ _ _ _ (by simp))))
              | exact Rows.mono h (fun _ _ he => hK _ _ he)
        | halt x w' => cases x <;> simp only [Oper.upon] at h ⊢ <;> first | exact h.elim | exact absurd h (noQ _ _ _ (by simp))
      · exact absurd hq (noQ _ _ _ (by simp))
    · rename_i hw
      simp only [hw] at h
      exact hK _ _ h
theorem wpOp_of_Wl {Q' : Po} {k : Nat} {o : Oper} {w : World} (ho : ops[k]? = some o) (h : Wl P n ds Q' ops [o] F w) : wpOp P ops.toArray (QA n ds Q') k (fun a w' => QA n ds Q' .normal a w') (act n ds F) w := by
  unfold Wl wpList at h
  unfold wpOp
  simp only [List.getElem?_toArray, ho]
  exact h
theorem wpAnyM_chain {last : Nat} : ∀ (cs : List Nat) (lc : List Oper) (listed : Array Bool) (F : Fr) (w : World), cs.map (fun k => ops[k]?) = lc.map some → chainOk ops.toArray last cs listed = true → lc ≠ [] → Wch P n ds C Q ops lc F w →
    wpAnyM P ops.toArray C last (QA n ds Q) cs.length listed (act n ds F) w
  | _, [], _, _, _, _, _, h, _ => absurd rfl h
  | [], _ :: _, _, _, _, h, _, _, _ => by simp at h
  | k :: r, o :: lc, listed, F, w, hm, hc, _, h => by
    simp only [List.map_cons, List.cons.injEq] at hm
    simp only [chainOk, Bool.and_eq_true, beq_iff_eq] at hc
    obtain ⟨⟨h1, h2⟩, h3⟩ := hc
    have hlen : r.length = lc.length := by have := congrArg List.length hm.2; simpa using this
    have hrd : ∀ i, i ∈ Region.ready .any ops.toArray listed → i = k := fun i hi => by rw [h1] at hi; simpa using hi
    refine ⟨fun h0 => (by rw [h0] at h1; cases h1), fun i hi => ?_⟩
    obtain rfl := hrd i hi
    cases lc with
    | nil =>
      have hr : r = [] := List.eq_nil_of_length_eq_zero (by simpa using hlen)
      subst hr
      have hl : i = last := by simpa using h2
      refine ⟨fun e => absurd hl e, fun _ => ?_⟩
      simp only [Wch, List.isEmpty_nil, if_true] at h
      refine wpOp_mono (fun a' w' h' => ⟨?_, h'⟩) (wpOp_of_Wl hm.1 h)
      simpa [chainOk] using h3
    | cons o2 lc =>
      have hr : r.isEmpty = false := by cases r with | nil => simp at hlen | cons => rfl
      rw [hr] at h2
      have hl : i ≠ last := by simpa using h2
      refine ⟨fun _ => ?_, fun e => absurd e hl⟩
      simp only [Wch, List.isEmpty_cons, Bool.false_eq_true, if_false] at h
      refine wpOp_noQ ?_ ?_ (wpOp_of_Wl hm.1 h)
      · rintro e a' w' he ⟨F', _, h', _⟩; exact he h'
      · rintro a' w' ⟨F', rfl, _, hC, h'⟩
        refine ⟨hC, wpAnyM_chain r (o2 :: lc) _ F' w' hm.2 h3 (by simp) ?_⟩
        simpa only [Wch] using h'

theorem wpQuiet_mono {a₁ : Array Oper} {K K' : Act → Prop} (hK : ∀ a, K a → K' a) : ∀ (l : List Oper) (a : Act), wpQuiet P a₁ C K l a → wpQuiet P a₁ C K' l a
  | [], a, h => hK a h
  | o :: l, a, h => by
    unfold wpQuiet at h ⊢
    split
    · rename_i hw; rw [if_pos hw] at h; exact Oper.quiet_mono (fun a' => wpQuiet_mono hK l a') h
    · rename_i hw; rw [if_neg hw] at h; exact wpQuiet_mono hK l _ h
/-- Some of a region's operations. -/
def pick (ops : List Oper) : List Nat → List Oper
  | [] => []
  | k :: r => match ops[k]? with | some o => o :: pick ops r | none => pick ops r
theorem pick_map {ops : List Oper} : ∀ {qs : List Nat}, qs.all (fun k => decide (k < ops.length)) = true → qs.map (fun k => ops[k]?) = (pick ops qs).map some
  | [], _ => rfl
  | k :: r, h => by
    simp only [List.all_cons, Bool.and_eq_true, decide_eq_true_eq] at h
    have := List.getElem?_eq_getElem h.1
    simp only [List.map_cons, pick, this, pick_map h.2]
/-- A region of quiet operations and a chain. -/
theorem Wc.regionM {w : World} {id : Nat} (qs cs : List Nat) {lq lc : List Oper} (hm : P.follows .mixedOrders = true) (hB : (mixOk ops qs cs && (qs.all (fun k => decide (k < ops.length)) && (cs.all (fun k => decide (k < ops.length)) && !(pick ops cs).isEmpty))) = true) (hq' : pick ops qs = lq) (hc' : pick ops cs = lc)
    (C : World → Prop) (hC : C w.drew) (h : Wq P n ds C (fun F' => ∀ w', New w w' → Wch P n ds C Q ops lc F' w') ops lq F) : Wc P n ds Q (.region id ops.toArray true) F w := by
  unfold Wc
  subst hq'
  subst hc'
  simp only [Bool.and_eq_true] at hB
  obtain ⟨hB, hq, hc, hne⟩ := hB
  replace hq := pick_map hq
  replace hc := pick_map hc
  simp only [mixOk, Bool.and_eq_true, beq_iff_eq] at hB
  obtain ⟨⟨⟨⟨h1, h2⟩, h3⟩, h4⟩, h5⟩ := hB
  refine wp_region_any hm ?_
  refine wpAny_of_M (last := cs.getLast?.getD 0) (C := C) _ _ _ _ ?_
  have h0 : Clos ops.toArray (Array.replicate ops.toArray.size false) := by
    intro j o hj
    exfalso
    simp only [Array.getD_eq_getD_getElem?, Array.getElem?_replicate] at hj
    split at hj <;> simp at hj
  have HL : ∀ listed : Array Bool, Clos ops.toArray listed → cs.getLast?.getD 0 ∈ Region.ready .any ops.toArray listed → ∀ i, i ≠ cs.getLast?.getD 0 → i < ops.toArray.size → listed.getD i true = true := by
    intro listed hcl hr i hil hi2
    by_cases hi : i < listed.size
    · have := List.all_eq_true.1 h5 i (List.mem_range.2 hi2)
      have hmem : i ∈ ahead ops.toArray ops.toArray.size [cs.getLast?.getD 0] := by simpa using this
      rcases ahead_spec hcl hr _ _ (by simp) i hmem with e | e
      · exact absurd e hil
      · simpa [Array.getD_eq_getD_getElem?, Array.getElem?_eq_getElem hi] using e
    · simp [Array.getD_eq_getD_getElem?, Array.getElem?_eq_none (Nat.not_lt.1 hi)]
  have := wpAnyM_quiet (P := P) (C := C) (Q := QA n ds Q) (Region.noSelect_spec h1) HL cs.length qs _ (Array.replicate ops.toArray.size false) (act n ds F) w.drew (by simpa using hq) h2 h0 hC ?_
  · rw [h4] at this; exact this
  · unfold Wq at h
    refine wpQuiet_mono (fun a' ha => ?_) _ _ h
    obtain ⟨F', rfl, hk⟩ := ha
    exact wpAnyM_chain cs _ _ F' _ hc h3 (by intro e; rw [e] at hne; cases hne) (hk _ (Chg.drew _ _))
end
end Go.Proofs.YtjpebmgllfiloaaDoor.Wk
