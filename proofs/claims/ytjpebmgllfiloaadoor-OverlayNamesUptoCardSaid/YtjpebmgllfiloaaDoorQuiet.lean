/-
  The generic walking kit of this claim: regions that draw their order, whose operations leave the world alone or call what does. It speaks of any program.
-/
import Derived.Test.YtjpebmgllfiloaaDoorOwn
import Derived.Deep.Quiet
namespace Go.Proofs.YtjpebmgllfiloaaDoor.Wk
open Go Go.RowKit

/-- The lexical walk of such a region: C, the worlds that it may be in. -/
def Wq (P : Program) (n : Nat) (ds : List Deferred) (C : World → Prop) (K : Fr → Prop) (ops : List Oper) (l : List Oper) (F : Fr) : Prop :=
  wpQuiet P ops.toArray C (fun a => ∃ F', a = act n ds F' ∧ K F') l (act n ds F)
section
variable {P : Program} {n : Nat} {ds : List Deferred} {C : World → Prop} {K : Fr → Prop} {F : Fr} {ops rest : List Oper} {d d1 d2 : Nat} {ty ty1 ty2 : TypeId} {pos pos1 pos2 : String} {aft aft1 aft2 : Array Edge}
theorem Wq.nil (h : K F) : Wq P n ds C K ops [] F := ⟨F, rfl, h⟩
theorem Wq.val {op : Op} {v : Value} (hr : ∀ w, C w → (execOp (ev n F) ⟨some d, op, ty, pos, aft, none⟩).run P w = .ok (.value v) w)
    (k : Wq P n ds C K ops rest (upd F d v)) : Wq P n ds C K ops (⟨some d, op, ty, pos, aft, none⟩ :: rest) F := by
  refine wpQuiet_step fun K' hK => ?_
  rw [if_pos (by simp [Region.wanted])]
  refine ⟨v, fun w hw => ?_, ?_⟩
  · unfold Oper.quietAt
    rw [act_eval', hr w hw]
    exact ⟨rfl, rfl⟩
  · rw [act_put]
    exact hK _ k
theorem Wq.guardY {o : Oper} {j : Nat} {b : Bool} (hg : o.guard = some (j, b)) (hy : yld ops n F j = some b)
    (k : Wq P n ds C K ops ({ o with guard := none } :: rest) F) : Wq P n ds C K ops (o :: rest) F := by
  have hw : Region.wanted o (yielded ops.toArray (act n ds F).tmps) = true := by
    simp only [Region.wanted, hg, act, yielded_eq, hy]; simp
  have hw2 : Region.wanted { o with guard := none } (yielded ops.toArray (act n ds F).tmps) = true := rfl
  unfold Wq wpQuiet at k ⊢
  rw [if_pos hw]
  rw [if_pos hw2] at k
  exact k
theorem Wq.guardN {op : Op} {j : Nat} {b c : Bool} (hy : yld ops n F j = some c) (hbc : (c == b) = false)
    (k : Wq P n ds C K ops rest (upd F d undef)) : Wq P n ds C K ops (⟨some d, op, ty, pos, aft, some (j, b)⟩ :: rest) F := by
  have hw : Region.wanted ⟨some d, op, ty, pos, aft, some (j, b)⟩ (yielded ops.toArray (act n ds F).tmps) = false := by
    simp only [Region.wanted, act, yielded_eq, hy]; simpa using hbc
  unfold Wq wpQuiet
  rw [if_neg (by rw [hw]; simp), act_put]
  exact k
/-- A call of a function that hands back this value, in whatever world of the class. -/
theorem Wq.call {args : List Operand} {ts : Array TypeId} {f : FuncId} {vs : List Value} {v : Value}
    [hc : Callable P f] (h : ∀ w, C w → Calls P f vs.toArray w (fun e w' => e = .returned v ∧ C w')) (ha : args.map (ev n F) = vs) (k : Wq P n ds C K ops rest (upd F d v)) :
    Wq P n ds C K ops (⟨some d, .call { callee := .value (.func f), args := args.toArray, argTypes := ts }, ty, pos, aft, none⟩ :: rest) F := by
  refine wpQuiet_step fun K' hK => ?_
  rw [if_pos (by simp [Region.wanted])]
  refine ⟨v, fun w hw => ?_, ?_⟩
  · unfold Oper.quietAt
    have e : (execOp (ev n F) ⟨some d, .call { callee := .value (.func f), args := args.toArray, argTypes := ts }, ty, pos, aft, none⟩).run P w = .ok (.enter f vs.toArray) w := by
      subst ha
      simp only [execOp, resolve, ev, Deferred.ofValue, Sem.run_bind, Sem.run_pure, Result.andThen_ok, invoke, run_callFunc hc]
      congr 3
      apply Array.ext'
      simp
    rw [act_eval', e]
    exact ⟨rfl, h w hw⟩
  · rw [act_put]
    exact hK _ k
theorem Wc.regionQ {Q : Po} {w : World} {id : Nat} {l : List Oper} (C : World → Prop) (hm : P.follows .mixedOrders = true) (hB : Region.lexB .any l.toArray = true) (hC : C w.drew)
    (h : Wq P n ds C (fun F' => ∀ w', C w' → Q .normal F' w') l l F) : Wc P n ds Q (.region id l.toArray true) F w := by
  unfold Wc
  refine wp_region_quiet (C := C) hm hB hC ?_
  have : ∀ (l' : List Oper) (a : Act), wpQuiet P l.toArray C (fun a => ∃ F', a = act n ds F' ∧ ∀ w', C w' → Q .normal F' w') l' a → wpQuiet P l.toArray C (fun a' => ∀ w', C w' → QA n ds Q .normal a' w') l' a := by
    intro l'
    induction l' with
    | nil => rintro a ⟨F', rfl, hk⟩ w' hw'; exact ⟨F', rfl, hk w' hw'⟩
    | cons o r ih =>
      intro a ha
      unfold wpQuiet at ha ⊢
      split
      · rename_i hw; rw [if_pos hw] at ha; exact Oper.quiet_mono ih ha
      · rename_i hw; rw [if_neg hw] at ha; exact ih _ ha
  simpa using this l _ h
/-- The class of worlds in which nothing of w has turned. -/
theorem Wc.regionN {Q : Po} {w : World} {id : Nat} {l : List Oper} (hm : P.follows .mixedOrders = true) (hB : Region.lexB .any l.toArray = true)
    (h : Wq P n ds (New w) (fun F' => ∀ w', New w w' → Q .normal F' w') l l F) : Wc P n ds Q (.region id l.toArray true) F w :=
  Wc.regionQ (New w) hm hB (Chg.drew _ _) h
/-! Plain operations. -/
theorem Wq.move {x : Operand} (k : Wq P n ds C K ops rest (upd F d (ev n F x))) : Wq P n ds C K ops (⟨some d, .move x, ty, pos, aft, none⟩ :: rest) F :=
  Wq.val (fun w _ => by simp [execOp]) k
theorem Wq.assign {x : Operand} (k : Wq P n ds C K ops rest (upd F d (ev n F x))) : Wq P n ds C K ops (⟨some d, .assign x, ty, pos, aft, none⟩ :: rest) F :=
  Wq.val (fun w _ => by simp [execOp]) k
theorem Wq.extract {x : Operand} {i : Nat} {l : List Value} {v : Value} (h : ev n F x = .tuple l.toArray) (hi : l[i]? = some v)
    (k : Wq P n ds C K ops rest (upd F d v)) : Wq P n ds C K ops (⟨some d, .extract x i, ty, pos, aft, none⟩ :: rest) F :=
  Wq.val (fun w _ => by simp [execOp, h, Instr.extract, hi]) k
theorem Wq.pickT {c a b : Operand} (h : ev n F c = .bool true) (k : Wq P n ds C K ops rest (upd F d (ev n F a))) : Wq P n ds C K ops (⟨some d, .pick c a b, ty, pos, aft, none⟩ :: rest) F :=
  Wq.val (fun w _ => by simp [execOp, h, asBool]) k
theorem Wq.pickF {c a b : Operand} (h : ev n F c = .bool false) (k : Wq P n ds C K ops rest (upd F d (ev n F b))) : Wq P n ds C K ops (⟨some d, .pick c a b, ty, pos, aft, none⟩ :: rest) F :=
  Wq.val (fun w _ => by simp [execOp, h, asBool]) k
theorem Wq.moveE {x : Operand} {v : Value} (h : ev n F x = v) (k : Wq P n ds C K ops rest (upd F d v)) : Wq P n ds C K ops (⟨some d, .move x, ty, pos, aft, none⟩ :: rest) F :=
  Wq.move (h ▸ k)
theorem Wq.assignE {x : Operand} {v : Value} (h : ev n F x = v) (k : Wq P n ds C K ops rest (upd F d v)) : Wq P n ds C K ops (⟨some d, .assign x, ty, pos, aft, none⟩ :: rest) F :=
  Wq.assign (h ▸ k)
theorem Wq.pickTE {c a b : Operand} {v : Value} (h : ev n F c = .bool true) (h' : ev n F a = v) (k : Wq P n ds C K ops rest (upd F d v)) : Wq P n ds C K ops (⟨some d, .pick c a b, ty, pos, aft, none⟩ :: rest) F :=
  Wq.pickT h (h' ▸ k)
theorem Wq.pickFE {c a b : Operand} {v : Value} (h : ev n F c = .bool false) (h' : ev n F b = v) (k : Wq P n ds C K ops rest (upd F d v)) : Wq P n ds C K ops (⟨some d, .pick c a b, ty, pos, aft, none⟩ :: rest) F :=
  Wq.pickF h (h' ▸ k)
theorem Wq.notB {x : Operand} {t : TypeId} {b : Bool} (h : ev n F x = .bool b) (k : Wq P n ds C K ops rest (upd F d (.bool !b))) : Wq P n ds C K ops (⟨some d, .unOp .not t x, ty, pos, aft, none⟩ :: rest) F :=
  Wq.val (fun w _ => by simp [execOp, h, Op.unary]) k

section cmp
variable {x y : Operand} {t t' : TypeId} {a b : Int} {k : IntKind}
theorem Wq.cmp {op : BinOp} {r : Bool} (hr : Op.intCmp op a b = pure (.bool r)) (hop : op ≠ .add ∧ op ≠ .sub ∧ op ≠ .mul ∧ op ≠ .quo ∧ op ≠ .rem ∧ op ≠ .and ∧ op ≠ .or ∧ op ≠ .xor ∧ op ≠ .andNot ∧ op ≠ .shl ∧ op ≠ .shr) (hx : ev n F x = .int k a) (hy : ev n F y = .int k b)
    (c : Wq P n ds C K ops rest (upd F d (.bool r))) : Wq P n ds C K ops (⟨some d, .binOp op t x y t', ty, pos, aft, none⟩ :: rest) F := by
  refine Wq.val (fun w _ => ?_) c
  simp only [execOp, hx, hy, Sem.run_bind, run_eqGuard_int, Result.andThen_ok]
  have : binOp op t (.int k a) (.int k b) = Op.intCmp op a b := by cases op <;> simp_all [binOp]
  rw [this, hr]; rfl
theorem Wq.lss (hx : ev n F x = .int k a) (hy : ev n F y = .int k b) (ht : a < b → Wq P n ds C K ops rest (upd F d (.bool true))) (hf : b ≤ a → Wq P n ds C K ops rest (upd F d (.bool false))) :
    Wq P n ds C K ops (⟨some d, .binOp .lss t x y t', ty, pos, aft, none⟩ :: rest) F := by
  by_cases h : a < b
  · exact Wq.cmp (r := true) (by rw [show Op.intCmp .lss a b = pure (.bool (decide (a < b))) from rfl, decide_eq_true h]) (by simp) hx hy (ht h)
  · exact Wq.cmp (r := false) (by rw [show Op.intCmp .lss a b = pure (.bool (decide (a < b))) from rfl, decide_eq_false h]) (by simp) hx hy (hf (Int.not_lt.1 h))
theorem Wq.leq (hx : ev n F x = .int k a) (hy : ev n F y = .int k b) (ht : a ≤ b → Wq P n ds C K ops rest (upd F d (.bool true))) (hf : b < a → Wq P n ds C K ops rest (upd F d (.bool false))) :
    Wq P n ds C K ops (⟨some d, .binOp .leq t x y t', ty, pos, aft, none⟩ :: rest) F := by
  by_cases h : a ≤ b
  · exact Wq.cmp (r := true) (by rw [show Op.intCmp .leq a b = pure (.bool (decide (a ≤ b))) from rfl, decide_eq_true h]) (by simp) hx hy (ht h)
  · exact Wq.cmp (r := false) (by rw [show Op.intCmp .leq a b = pure (.bool (decide (a ≤ b))) from rfl, decide_eq_false h]) (by simp) hx hy (hf (Int.not_le.1 h))
theorem Wq.gtr (hx : ev n F x = .int k a) (hy : ev n F y = .int k b) (ht : b < a → Wq P n ds C K ops rest (upd F d (.bool true))) (hf : a ≤ b → Wq P n ds C K ops rest (upd F d (.bool false))) :
    Wq P n ds C K ops (⟨some d, .binOp .gtr t x y t', ty, pos, aft, none⟩ :: rest) F := by
  by_cases h : b < a
  · exact Wq.cmp (r := true) (by rw [show Op.intCmp .gtr a b = pure (.bool (decide (a > b))) from rfl, decide_eq_true h]) (by simp) hx hy (ht h)
  · exact Wq.cmp (r := false) (by rw [show Op.intCmp .gtr a b = pure (.bool (decide (a > b))) from rfl, decide_eq_false h]) (by simp) hx hy (hf (Int.not_lt.1 h))
theorem Wq.geq (hx : ev n F x = .int k a) (hy : ev n F y = .int k b) (ht : b ≤ a → Wq P n ds C K ops rest (upd F d (.bool true))) (hf : a < b → Wq P n ds C K ops rest (upd F d (.bool false))) :
    Wq P n ds C K ops (⟨some d, .binOp .geq t x y t', ty, pos, aft, none⟩ :: rest) F := by
  by_cases h : b ≤ a
  · exact Wq.cmp (r := true) (by rw [show Op.intCmp .geq a b = pure (.bool (decide (a ≥ b))) from rfl, decide_eq_true h]) (by simp) hx hy (ht h)
  · exact Wq.cmp (r := false) (by rw [show Op.intCmp .geq a b = pure (.bool (decide (a ≥ b))) from rfl, decide_eq_false h]) (by simp) hx hy (hf (Int.not_le.1 h))
theorem Wq.eql (hx : ev n F x = .int k a) (hy : ev n F y = .int k b) (ht : a = b → Wq P n ds C K ops rest (upd F d (.bool true))) (hf : a ≠ b → Wq P n ds C K ops rest (upd F d (.bool false))) :
    Wq P n ds C K ops (⟨some d, .binOp .eql t x y t', ty, pos, aft, none⟩ :: rest) F := by
  by_cases h : a = b
  · exact Wq.cmp (r := true) (by rw [show Op.intCmp .eql a b = pure (.bool (a == b)) from rfl, show (a == b) = true from beq_iff_eq.2 h]) (by simp) hx hy (ht h)
  · exact Wq.cmp (r := false) (by rw [show Op.intCmp .eql a b = pure (.bool (a == b)) from rfl, show (a == b) = false from beq_eq_false_iff_ne.2 h]) (by simp) hx hy (hf h)
theorem Wq.neq (hx : ev n F x = .int k a) (hy : ev n F y = .int k b) (ht : a ≠ b → Wq P n ds C K ops rest (upd F d (.bool true))) (hf : a = b → Wq P n ds C K ops rest (upd F d (.bool false))) :
    Wq P n ds C K ops (⟨some d, .binOp .neq t x y t', ty, pos, aft, none⟩ :: rest) F := by
  by_cases h : a = b
  · exact Wq.cmp (r := false) (by rw [show Op.intCmp .neq a b = pure (.bool (a != b)) from rfl, show (a != b) = false from by simpa using h]) (by simp) hx hy (hf h)
  · exact Wq.cmp (r := true) (by rw [show Op.intCmp .neq a b = pure (.bool (a != b)) from rfl, show (a != b) = true from by simpa using h]) (by simp) hx hy (ht h)
end cmp

section str
variable {x y : Operand} {t t' : TypeId} {a b : List UInt8}
theorem Wq.seql (hx : ev n F x = vs a) (hy : ev n F y = vs b) (ht : a = b → Wq P n ds C K ops rest (upd F d (.bool true))) (hf : a ≠ b → Wq P n ds C K ops rest (upd F d (.bool false))) :
    Wq P n ds C K ops (⟨some d, .binOp .eql t x y t', ty, pos, aft, none⟩ :: rest) F := by
  by_cases h : a = b
  · exact Wq.val (fun w _ => by simp only [execOp, hx, hy, Sem.run_bind, run_eqGuard_str, Result.andThen_ok, binOp_string_eql, ByteArray.toList_mk, Sem.run_pure, beq_iff_eq.2 h]) (ht h)
  · exact Wq.val (fun w _ => by simp only [execOp, hx, hy, Sem.run_bind, run_eqGuard_str, Result.andThen_ok, binOp_string_eql, ByteArray.toList_mk, Sem.run_pure, beq_eq_false_iff_ne.2 h]) (hf h)
theorem Wq.sneq (hx : ev n F x = vs a) (hy : ev n F y = vs b) (ht : a ≠ b → Wq P n ds C K ops rest (upd F d (.bool true))) (hf : a = b → Wq P n ds C K ops rest (upd F d (.bool false))) :
    Wq P n ds C K ops (⟨some d, .binOp .neq t x y t', ty, pos, aft, none⟩ :: rest) F := by
  by_cases h : a = b
  · exact Wq.val (fun w _ => by simp only [execOp, hx, hy, Sem.run_bind, run_eqGuard_str, Result.andThen_ok, binOp_string_neq, ByteArray.toList_mk, Sem.run_pure, beq_iff_eq.2 h, Bool.not_true]) (hf h)
  · exact Wq.val (fun w _ => by simp only [execOp, hx, hy, Sem.run_bind, run_eqGuard_str, Result.andThen_ok, binOp_string_neq, ByteArray.toList_mk, Sem.run_pure, beq_eq_false_iff_ne.2 h, Bool.not_false]) (ht h)
theorem Wq.sadd (hx : ev n F x = vs a) (hy : ev n F y = vs b) (hb : a.length + b.length ≤ 9223372036854775807) (c : Wq P n ds C K ops rest (upd F d (vs (a ++ b)))) :
    Wq P n ds C K ops (⟨some d, .binOp .add t x y t', ty, pos, aft, none⟩ :: rest) F := by
  refine Wq.val (fun w _ => ?_) c
  have h1 : ¬ (((a.length + b.length : Nat) : Int) > IntKind.i64.max) := by simp [IntKind.max, IntKind.signed, IntKind.bits]; omega
  have h2 : (⟨a.toArray⟩ : ByteArray) ++ ⟨b.toArray⟩ = ⟨(a ++ b).toArray⟩ := by
    apply ByteArray.ext; simp [ByteArray.data_append]
  simp only [execOp, hx, hy, Sem.run_bind, run_eqGuard_str, Result.andThen_ok, binOp_string_add, Op.stringOp, ByteArray.size, List.size_toArray]
  rw [if_neg h1, h2]; rfl
end str

section arith
variable {x y : Operand} {t t' : TypeId} {a b : Int} {k : IntKind}
theorem Wq.add (hx : ev n F x = .int .i64 a) (hy : ev n F y = .int .i64 b) (h0 : -9223372036854775808 ≤ a + b) (h1 : a + b ≤ 9223372036854775807)
    (c : Wq P n ds C K ops rest (upd F d (.int .i64 (a + b)))) : Wq P n ds C K ops (⟨some d, .binOp .add t x y t', ty, pos, aft, none⟩ :: rest) F :=
  Wq.val (fun w _ => by simp [execOp, hx, hy, run_eqGuard_int, binOp, Op.intArith, wrap64_id h0 h1]) c
theorem Wq.sub (hx : ev n F x = .int .i64 a) (hy : ev n F y = .int .i64 b) (h0 : -9223372036854775808 ≤ a - b) (h1 : a - b ≤ 9223372036854775807)
    (c : Wq P n ds C K ops rest (upd F d (.int .i64 (a - b)))) : Wq P n ds C K ops (⟨some d, .binOp .sub t x y t', ty, pos, aft, none⟩ :: rest) F :=
  Wq.val (fun w _ => by simp [execOp, hx, hy, run_eqGuard_int, binOp, Op.intArith, wrap64_id h0 h1]) c
theorem Wq.mul (hx : ev n F x = .int .i64 a) (hy : ev n F y = .int .i64 b) (h0 : -9223372036854775808 ≤ a * b) (h1 : a * b ≤ 9223372036854775807)
    (c : Wq P n ds C K ops rest (upd F d (.int .i64 (a * b)))) : Wq P n ds C K ops (⟨some d, .binOp .mul t x y t', ty, pos, aft, none⟩ :: rest) F :=
  Wq.val (fun w _ => by simp [execOp, hx, hy, run_eqGuard_int, binOp, Op.intArith, wrap64_id h0 h1]) c
theorem Wq.addW (hx : ev n F x = .int k a) (hy : ev n F y = .int k b)
    (c : Wq P n ds C K ops rest (upd F d (.int k (k.wrap (a + b))))) : Wq P n ds C K ops (⟨some d, .binOp .add t x y t', ty, pos, aft, none⟩ :: rest) F :=
  Wq.val (fun w _ => by simp [execOp, hx, hy, run_eqGuard_int, binOp, Op.intArith]) c
theorem Wq.subW (hx : ev n F x = .int k a) (hy : ev n F y = .int k b)
    (c : Wq P n ds C K ops rest (upd F d (.int k (k.wrap (a - b))))) : Wq P n ds C K ops (⟨some d, .binOp .sub t x y t', ty, pos, aft, none⟩ :: rest) F :=
  Wq.val (fun w _ => by simp [execOp, hx, hy, run_eqGuard_int, binOp, Op.intArith]) c
theorem Wq.mulW (hx : ev n F x = .int k a) (hy : ev n F y = .int k b)
    (c : Wq P n ds C K ops rest (upd F d (.int k (k.wrap (a * b))))) : Wq P n ds C K ops (⟨some d, .binOp .mul t x y t', ty, pos, aft, none⟩ :: rest) F :=
  Wq.val (fun w _ => by simp [execOp, hx, hy, run_eqGuard_int, binOp, Op.intArith]) c
theorem Wq.quoW (hx : ev n F x = .int k a) (hy : ev n F y = .int k b) (h0 : b ≠ 0)
    (c : Wq P n ds C K ops rest (upd F d (.int k (k.wrap (a.tdiv b))))) : Wq P n ds C K ops (⟨some d, .binOp .quo t x y t', ty, pos, aft, none⟩ :: rest) F :=
  Wq.val (fun w _ => by simp [execOp, hx, hy, run_eqGuard_int, binOp, Op.intDiv, h0]) c
theorem Wq.remW (hx : ev n F x = .int k a) (hy : ev n F y = .int k b) (h0 : b ≠ 0)
    (c : Wq P n ds C K ops rest (upd F d (.int k (a.tmod b)))) : Wq P n ds C K ops (⟨some d, .binOp .rem t x y t', ty, pos, aft, none⟩ :: rest) F :=
  Wq.val (fun w _ => by simp [execOp, hx, hy, run_eqGuard_int, binOp, Op.intDiv, h0]) c
theorem Wq.shrW {k' : IntKind} (hx : ev n F x = .int k a) (hy : ev n F y = .int k' b) (h0 : 0 ≤ b)
    (c : Wq P n ds C K ops rest (upd F d (.int k (a.fdiv (2 ^ (min b.toNat k.bits)))))) : Wq P n ds C K ops (⟨some d, .binOp .shr t x y t', ty, pos, aft, none⟩ :: rest) F :=
  Wq.val (fun w _ => by simp [execOp, hx, hy, run_eqGuard_int, binOp, Op.shift, Int.not_lt.2 h0]) c
theorem Wq.shlW {k' : IntKind} (hx : ev n F x = .int k a) (hy : ev n F y = .int k' b) (h0 : 0 ≤ b)
    (c : Wq P n ds C K ops rest (upd F d (.int k (k.wrap (a * 2 ^ (min b.toNat k.bits)))))) : Wq P n ds C K ops (⟨some d, .binOp .shl t x y t', ty, pos, aft, none⟩ :: rest) F :=
  Wq.val (fun w _ => by simp [execOp, hx, hy, run_eqGuard_int, binOp, Op.shift, Int.not_lt.2 h0]) c
theorem Wq.convI {k' : IntKind} {u : TypeDesc} [hu : Und P t' (.int k')] [ht : Und P t u] (hx : ev n F x = .int k a)
    (c : Wq P n ds C K ops rest (upd F d (.int k' (k'.wrap a)))) : Wq P n ds C K ops (⟨some d, .convert t t' x, ty, pos, aft, none⟩ :: rest) F := by
  refine Wq.val (fun w _ => ?_) c
  simp only [execOp, hx, Sem.run_bind, convert, run_underlying ht.h, run_underlying hu.h, Result.andThen_ok, Conv.intToInt, Sem.run_pure]
end arith
theorem Wq.lenS {x : Operand} {t e : TypeId} {a : Option Addr} {l cap : Nat} [ht : Und P t (.slice e)] (hx : ev n F x = .slice a l cap)
    (c : Wq P n ds C K ops rest (upd F d (vi l))) : Wq P n ds C K ops (⟨some d, .call { callee := .builtin .len, args := #[x], argTypes := #[t] }, ty, pos, aft, none⟩ :: rest) F :=
  Wq.val (fun w _ => by simp only [execOp, resolve, Sem.run_bind, Sem.run_pure, Result.andThen_ok, invoke, builtin, List.map_toArray, List.map_cons, List.map_nil, hx, run_lenS ht.h]) c

theorem Wq.lenStr {x : Operand} {t : TypeId} {l : List UInt8} [ht : Und P t .string] (hx : ev n F x = vs l)
    (c : Wq P n ds C K ops rest (upd F d (vi l.length))) : Wq P n ds C K ops (⟨some d, .call { callee := .builtin .len, args := #[x], argTypes := #[t] }, ty, pos, aft, none⟩ :: rest) F :=
  Wq.val (fun w _ => by simp only [execOp, resolve, Sem.run_bind, Sem.run_pure, Result.andThen_ok, invoke, builtin, List.map_toArray, List.map_cons, List.map_nil, hx, run_lenStr ht.h]) c
section
variable {α : Type} {R : Rel α} {Pb : Nat → Prop} {xs : List α} {x i : Operand} {t e e' : TypeId} {bytes : Nat} {z v : Value} {k : IntKind} {j : Int} {y : α}
/-- xs[j], plain. -/
theorem Wq.idxLoadV {f : α → Value} [ht : Und P t (.slice e)] [he : ElT P e 1 bytes false z] (h : ∀ w, C w → RdS (one f) 1 Pb w v xs) (hx : ev n F x = v) (hi : ev n F i = .int k j) (h0 : 0 ≤ j) (hy : xs[j.toNat]? = some y) (hd : Nat.blt d1 n = true) (hee : e' = e) (hC : ∃ w, C w)
    (c : ∀ p, Wq P n ds C K ops rest (upd (upd F d1 p) d2 (f y))) :
    Wq P n ds C K ops (⟨some d1, .indexAddr t x i, ty1, pos1, aft1, none⟩ :: ⟨some d2, .load e' (.tmp d1), ty2, pos2, aft2, none⟩ :: rest) F := by
  subst hee
  obtain ⟨w0, hw0⟩ := hC
  obtain ⟨b, off, cap, rfl, hlt, _⟩ := (h w0 hw0).cells hy
  have hc : ∀ w, C w → w.cell? ⟨b, off + j.toNat * 1, none⟩ = some (f y) := by
    intro w hw
    obtain ⟨b', off', cap', e1, _, cs, hl, hR, hc⟩ := (h w hw).cells hy
    cases e1
    have := hc 0 (f y) (by rw [hR]; rfl)
    simpa using this
  refine Wq.val (v := .pointer (some ((⟨b, off, none⟩ : Addr).add (j.toNat * 1)))) (fun w _ => ?_) (Wq.val (v := f y) (fun w hw => ?_) (c _))
  · simp only [execOp, hx, hi, Sem.run_bind, run_indexAt ht.h he h0 (by omega : j < xs.length), Result.andThen_ok, Sem.run_pure]
  · simp only [execOp, ev, hd, upd_eq, if_pos, Sem.run_bind]
    rw [addr_add, run_load1 he (hc w hw)]; rfl
end
end
attribute [irreducible] Wq
end Go.Proofs.YtjpebmgllfiloaaDoor.Wk
