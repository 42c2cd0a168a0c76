/-
  The generic walking kit of this claim: a region that draws its order and makes memory: an assertion an operation, kept while memory grows. It speaks of any program.
-/
import Derived.Test.YtjpebmgllfiloaaDoorStr
namespace Go.Proofs.YtjpebmgllfiloaaDoor.Wk
open Go Go.RowKit

/-- Every edge leads to an operation ahead; each operation writes a slot. -/
def downOk (ops : List Oper) : Bool := (List.range ops.length).all fun i => match ops[i]? with
  | some o => o.dst.isSome && o.after.all fun e => e.on < i
  | none => true
/-- No two operations write one slot. -/
def dstOk (ops : List Oper) : Bool := (List.range ops.length).all fun i => (List.range ops.length).all fun j => i == j || ((ops[i]?).bind (·.dst)) != ((ops[j]?).bind (·.dst))
/-- Slot s still holds what it held when operation i runs: whoever writes it waits for i. -/
def freeFor (ops : List Oper) (i s : Nat) : Bool := ops.all fun o : Oper => o.dst != some s || o.after.any fun e : Edge => e.on == i && Region.binds .any e
def dstOf (ops : List Oper) (i : Nat) : Nat := (((ops[i]?).bind (·.dst))).getD 0
/-- What one operation must come to. -/
def Qone (Φ : Nat → Value → World → Prop) (w0 : World) (d i : Nat) (F : Fr) : Po := fun e F' w' => e = .normal ∧ ∃ v, F' = upd F d v ∧ New w0 w' ∧ Φ i v w'
theorem Qone.mk {Φ : Nat → Value → World → Prop} {w0 w' : World} {d i : Nat} {F : Fr} {v : Value} (h1 : New w0 w') (h2 : Φ i v w') : Qone Φ w0 d i F .normal (upd F d v) w' := ⟨rfl, v, rfl, h1, h2⟩

section
variable {P : Program} {n : Nat} {ds : List Deferred} {Q : Po} {F0 : Fr} {w0 : World} {ops : List Oper}

structure DrInv (ops : List Oper) (Φ : Nat → Value → World → Prop) (F0 : Fr) (wb : World) (listed : Array Bool) (F : Fr) (w : World) : Prop where
  size : listed.size = ops.length
  new : New wb w
  done : ∀ i : Nat, listed[i]? = some true → Φ i (F (dstOf ops i)) w
  rest : ∀ s : Nat, (∀ i : Nat, listed[i]? = some true → dstOf ops i ≠ s) → F s = F0 s
  clos : ∀ (i : Nat) (o : Oper), listed[i]? = some true → ops[i]? = some o → ∀ e ∈ o.after, Region.binds .any e = true → listed[e.on]? = some true

def unl (listed : Array Bool) : Nat := listed.toList.count false

theorem Wc.regionD {id : Nat} (Φ : Nat → Value → World → Prop) (hm : P.follows .mixedOrders = true) (h1 : downOk ops = true) (h2 : dstOk ops = true)
    (hst : ∀ i v w w', New w w' → Φ i v w → Φ i v w')
    (step : ∀ (i : Nat) (o : Oper), ops[i]? = some o → ∀ F w, New w0 w → (∀ j, (o.after.any fun e => e.on == j && Region.binds .any e) = true → Φ j (F (dstOf ops j)) w) → (∀ s, freeFor ops i s = true → F s = F0 s) →
      Wl P n ds (Qone Φ w (dstOf ops i) i F) ops [o] F w)
    (fin : ∀ F w, New w0 w → (∀ i, i < ops.length → Φ i (F (dstOf ops i)) w) → (∀ s, (∀ i, i < ops.length → dstOf ops i ≠ s) → F s = F0 s) → Q .normal F w) :
    Wc P n ds Q (.region id ops.toArray true) F0 w0 := by
  obtain ⟨ops', rfl⟩ : ∃ l, l = ops := ⟨_, rfl⟩
  have hdst : ∀ i o, ops'[i]? = some o → o.dst = some (dstOf ops' i) ∧ ∀ e ∈ o.after, e.on < i := by
    intro i o ho
    have hi : i < ops'.length := (List.getElem?_eq_some_iff.1 ho).1
    have := List.all_eq_true.1 h1 i (List.mem_range.2 hi)
    simp only [ho, Bool.and_eq_true] at this
    refine ⟨?_, fun e he => ?_⟩
    · simp only [dstOf, ho, Option.bind_some]
      cases hd : o.dst with
      | none => rw [hd] at this; simp at this
      | some d => rfl
    · have h := Array.all_eq_true'.1 this.2 e he
      simpa using h
  have hne : ∀ i j, i < ops'.length → j < ops'.length → i ≠ j → dstOf ops' i ≠ dstOf ops' j := by
    intro i j hi hj hij he
    have := List.all_eq_true.1 (List.all_eq_true.1 h2 i (List.mem_range.2 hi)) j (List.mem_range.2 hj)
    simp only [Bool.or_eq_true, beq_iff_eq, hij, false_or, bne_iff_ne, ne_eq] at this
    apply this
    have ei := (hdst i _ (List.getElem?_eq_getElem hi)).1
    have ej := (hdst j _ (List.getElem?_eq_getElem hj)).1
    rw [List.getElem?_eq_getElem hi, List.getElem?_eq_getElem hj]
    simp only [Option.bind_some, ei, ej, he]
  unfold Wc
  refine wp_region_any hm ?_
  have key : ∀ fuel (listed : Array Bool) F w, DrInv ops' Φ F0 w0 listed F w → unl listed = fuel → wpAny P .any ops'.toArray (QA n ds Q) fuel listed (act n ds F) w := by
    intro fuel
    have allDone : ∀ (listed : Array Bool) F w, DrInv ops' Φ F0 w0 listed F w → Region.ready .any ops'.toArray listed = [] → Q .normal F w := by
      intro listed F w hI hr
      have hall : ∀ i, i < ops'.length → listed[i]? = some true := by
        intro i
        induction i using Nat.strongRecOn with
        | ind i ih =>
          intro hi
          have his : i < listed.size := by rw [hI.size]; exact hi
          cases hb : listed[i] with
          | true => rw [Array.getElem?_eq_getElem his, hb]
          | false =>
            exfalso
            have : i ∈ Region.ready .any ops'.toArray listed := by
              refine mem_ready.2 ⟨?_, ops'[i], by simp, fun e he _ => ?_⟩
              · simp [Array.getD_eq_getD_getElem?, Array.getElem?_eq_getElem his, hb]
              · have := (hdst i _ (List.getElem?_eq_getElem hi)).2 e he
                simp [Array.getD_eq_getD_getElem?, ih e.on this (by omega)]
            rw [hr] at this
            cases this
      exact fin F w hI.new (fun i hi => hI.done i (hall i hi)) (fun s hs => hI.rest s fun i hi => by
        rcases Nat.lt_or_ge i ops'.length with h | h
        · exact hs i h
        · rw [Array.getElem?_eq_none (by rw [hI.size]; exact h)] at hi; cases hi)
    induction fuel with
    | zero =>
      intro listed F w hI hu
      have hr : Region.ready .any ops'.toArray listed = [] := by
        rw [List.eq_nil_iff_forall_not_mem]
        intro i hi
        have h0 := (mem_ready.1 hi).1
        have : false ∈ listed.toList := by
          rcases Nat.lt_or_ge i listed.size with h | h
          · simp [Array.getD_eq_getD_getElem?, Array.getElem?_eq_getElem h] at h0
            rw [← h0]; simp
          · simp [Array.getD_eq_getD_getElem?, Array.getElem?_eq_none h] at h0
        have := List.count_pos_iff.2 this
        unfold unl at hu; omega
      exact ⟨hr, F, rfl, allDone listed F w hI hr⟩
    | succ fuel ih =>
      intro listed F w hI hu
      refine ⟨fun hr => ⟨F, rfl, allDone listed F w hI hr⟩, fun i hi => ?_⟩
      obtain ⟨h0, o, ho, hedges⟩ := mem_ready.1 hi
      have ho' : ops'[i]? = some o := by simpa using ho
      have hil : i < ops'.length := (List.getElem?_eq_some_iff.1 ho').1
      have his : i < listed.size := by rw [hI.size]; exact hil
      have hli : listed[i] = false := by simpa [Array.getD_eq_getD_getElem?, Array.getElem?_eq_getElem his] using h0
      have hlt : ∀ e ∈ o.after, Region.binds .any e = true → listed[e.on]? = some true := by
        intro e he hb
        have h := hedges e he hb
        rcases Nat.lt_or_ge e.on listed.size with h' | h'
        · simp [Array.getD_eq_getD_getElem?, Array.getElem?_eq_getElem h'] at h
          rw [Array.getElem?_eq_getElem h', h]
        · simp [Array.getD_eq_getD_getElem?, Array.getElem?_eq_none h'] at h
      have hs := step i o ho' F w hI.new (fun j hj => by
        obtain ⟨e, he, hb⟩ := Array.any_eq_true'.1 hj
        simp only [Bool.and_eq_true, beq_iff_eq] at hb
        exact hI.done j (hb.1 ▸ hlt e he hb.2)) (fun s hs => hI.rest s fun k hk he => by
          have hkl : k < ops'.length := by
            rcases Nat.lt_or_ge k ops'.length with h | h
            · exact h
            · rw [Array.getElem?_eq_none (by rw [hI.size]; exact h)] at hk; cases hk
          have hok := List.getElem?_eq_getElem hkl
          have h3 := List.all_eq_true.1 hs _ (List.getElem_mem hkl)
          rw [(hdst k _ hok).1, he] at h3
          simp only [bne_self_eq_false, Bool.false_or] at h3
          obtain ⟨e, hee, hb⟩ := Array.any_eq_true'.1 h3
          simp only [Bool.and_eq_true, beq_iff_eq] at hb
          have := hI.clos k _ hk hok e hee hb.2
          rw [hb.1, Array.getElem?_eq_getElem his, hli] at this
          cases this)
      have hwp : wpOp P ops'.toArray (QA n ds (Qone Φ w (dstOf ops' i) i F)) i (fun a w' => QA n ds (Qone Φ w (dstOf ops' i) i F) .normal a w') (act n ds F) w := by
        have hs2 := hs
        unfold Wl wpList at hs2
        unfold wpOp
        simp only [ho]
        exact hs2
      have hmono : ∀ {K K' : Act → World → Prop}, (∀ a w, K a w → K' a w) → wpOp P ops'.toArray (QA n ds (Qone Φ w (dstOf ops' i) i F)) i K (act n ds F) w → wpOp P ops'.toArray (QA n ds Q) i K' (act n ds F) w := by
        intro K K' hK hh
        have noQ : ∀ e a w', e ≠ .normal → ¬ QA n ds (Qone Φ w (dstOf ops' i) i F) e a w' := by
          rintro e a w' he ⟨F', _, h, _⟩; exact he h
        unfold wpOp at hh ⊢
        simp only [ho] at hh ⊢
        split
        · rename_i hw
          rw [if_pos hw] at hh
          rcases hh with hh | ⟨_, a₀, w₀, hq⟩
          · refine .inl ?_
            unfold Oper.wp at *
            generalize (execOp (act n ds F).eval o).run P w = r at *
            cases r with
            | ok nx w' =>
              cases nx <;> simp only [Oper.upon] at hh ⊢ <;>
                first
                  | exact hK _ _ hh
                  | exact Calls.mono hh (fun e w'' he => by cases e <;> first | exact hK _ _ he | exact absurd he (noQ _ _ _ (by simp)) | (obtain ⟨a₀, w₀, hq⟩ := he; exact absurd hq (noQ _ _ _ (by simp))))
                  | exact Rows.mono hh (fun _ _ he => hK _ _ he)
            | halt x w' => cases x <;> simp only [Oper.upon] at hh ⊢ <;> exact absurd hh (noQ _ _ _ (by simp))
          · exact absurd hq (noQ _ _ _ (by simp))
        · rename_i hw
          rw [if_neg hw] at hh
          exact hK _ _ hh
      refine hmono ?_ hwp
      rintro a w' ⟨F', rfl, _, v, rfl, hn, hΦ⟩
      refine ih _ _ _ ⟨by simpa using hI.size, New.trans hI.new hn, fun j hj => ?_, fun s hs => ?_, fun j oj hj hoj e he hb => ?_⟩ ?_
      · by_cases hji : j = i
        · subst hji
          rw [upd_eq, if_pos rfl]; exact hΦ
        · rw [Array.getElem?_setIfInBounds_ne (Ne.symm hji)] at hj
          have hjl : j < ops'.length := by
            rcases Nat.lt_or_ge j ops'.length with h | h
            · exact h
            · rw [Array.getElem?_eq_none (by rw [hI.size]; exact h)] at hj; cases hj
          rw [upd_eq, if_neg (hne j i hjl hil hji)]
          exact hst _ _ _ _ hn (hI.done j hj)
      · have := hs i (by simp [his])
        rw [upd_eq, if_neg (Ne.symm this)]
        exact hI.rest s fun j hj => hs j (by
          by_cases hji : j = i
          · subst hji; simp [his]
          · rw [Array.getElem?_setIfInBounds_ne (Ne.symm hji)]; exact hj)
      · by_cases hei : e.on = i
        · rw [hei]; simp [his]
        · rw [Array.getElem?_setIfInBounds_ne (Ne.symm hei)]
          by_cases hji : j = i
          · subst hji
            rw [ho'] at hoj; cases hoj
            exact hlt e he hb
          · rw [Array.getElem?_setIfInBounds_ne (Ne.symm hji)] at hj
            exact hI.clos j oj hj hoj e he hb
      · unfold unl at hu ⊢
        rw [Array.toList_setIfInBounds, List.count_set (by simpa using his)]
        simp [hli, hu]
  have hI0 : DrInv ops' Φ F0 w0 (Array.replicate ops'.length false) F0 w0.drew :=
    ⟨by simp, Chg.drew _ _, fun i hi => (by rw [Array.getElem?_replicate] at hi; split at hi <;> cases hi), fun s _ => rfl, fun i o hi => (by rw [Array.getElem?_replicate] at hi; split at hi <;> cases hi)⟩
  have := key ops'.length _ _ _ hI0 (by simp [unl])
  simpa using this

/-- The same, its steps one by one. -/
def StepAt (P : Program) (n : Nat) (ds : List Deferred) (Φ : Nat → Value → World → Prop) (ops : List Oper) (F0 : Fr) (w0 : World) (i : Nat) (o : Oper) : Prop :=
  ∀ F w, New w0 w → (∀ j, (o.after.any fun e => e.on == j && Region.binds .any e) = true → Φ j (F (dstOf ops j)) w) → (∀ s, freeFor ops i s = true → F s = F0 s) →
      Wl P n ds (Qone Φ w (dstOf ops i) i F) ops [o] F w
def StepsAt (P : Program) (n : Nat) (ds : List Deferred) (Φ : Nat → Value → World → Prop) (ops : List Oper) (F0 : Fr) (w0 : World) : Nat → List Oper → Prop
  | _, [] => True
  | i, o :: r => StepAt P n ds Φ ops F0 w0 i o ∧ StepsAt P n ds Φ ops F0 w0 (i + 1) r
theorem StepsAt.get {Φ : Nat → Value → World → Prop} : ∀ {l : List Oper} {k : Nat}, StepsAt P n ds Φ ops F0 w0 k l → ∀ (i : Nat) (o : Oper), l[i]? = some o → StepAt P n ds Φ ops F0 w0 (k + i) o
  | [], _, _, i, o, h => by simp at h
  | o' :: r, k, hs, 0, o, h => by simp at h; subst h; exact hs.1
  | o' :: r, k, hs, i + 1, o, h => by
    have := StepsAt.get hs.2 i o (by simpa using h)
    rw [Nat.add_right_comm] at this
    exact this
theorem Wc.regionS {id : Nat} (Φ : Nat → Value → World → Prop) (hm : P.follows .mixedOrders = true) (h1 : downOk ops = true) (h2 : dstOk ops = true)
    (hst : ∀ i v w w', New w w' → Φ i v w → Φ i v w') (step : StepsAt P n ds Φ ops F0 w0 0 ops)
    (fin : ∀ F w, New w0 w → (∀ i, i < ops.length → Φ i (F (dstOf ops i)) w) → (∀ s, (∀ i, i < ops.length → dstOf ops i ≠ s) → F s = F0 s) → Q .normal F w) :
    Wc P n ds Q (.region id ops.toArray true) F0 w0 :=
  Wc.regionD Φ hm h1 h2 hst (fun i o ho => by have := step.get i o ho; rwa [Nat.zero_add] at this) fin
theorem yld_of {F : Fr} {j d : Nat} {b : Bool} (h : (ops[j]?).bind (·.dst) = some d) (hd : Nat.blt d n = true) (hv : F d = .bool b) : yld ops n F j = some b := by
  simp only [yld, h, hd, hv]
end
end Go.Proofs.YtjpebmgllfiloaaDoor.Wk
