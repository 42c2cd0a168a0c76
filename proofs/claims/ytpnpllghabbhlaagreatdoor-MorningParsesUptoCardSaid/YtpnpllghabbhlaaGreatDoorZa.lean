/-
  Texts of this claim, one behind the other: Core, Mem, Own, Quiet, Ptr, Str, Draw, Open, Arr, Facts.
-/
import Derived.WalkKit
import Derived.Below
import Derived.Laws.AppendOwn
import Derived.Laws.BytesArg
import Derived.Laws.OwnMore
import Derived.Laws.MakeOwn
import Derived.Deep.DeepMust
import Derived.WalkLawsBesides
import Derived.Scope
import Derived.Deep.Quiet
import Derived.Lib.Builder
import Derived.Lib.AppendStr
import Derived.ProofKit
import Derived.Lib.ConvBytes
import Derived.Test.YtpnpllghabbhlaaGreatDoorChecked
namespace Go.Proofs.YtpnpllghabbhlaaGreatDoor.Wk
open Go Go.RowKit

/-- What a type is, and that a function can be called: found by instance. -/
class Und (P : Program) (t : TypeId) (u : outParam TypeDesc) : Prop where
  h : P.underlying t = some u

/-! ### Frames -/
abbrev Fr := Nat → Value
def upd (F : Fr) (d : Nat) (v : Value) : Fr := fun k => match Nat.beq k d with | true => v | false => F k
def arr (n : Nat) (F : Fr) : Array Value := ((List.range n).map F).toArray
def ofArgs (l : List Value) : Fr := fun k => l.getD k undef
def ev (n : Nat) (F : Fr) : Operand → Value
  | .tmp t => match Nat.blt t n with | true => F t | false => undef
  | .const v => v
  | .global g => .pointer (some ⟨g, 0, none⟩)
  | .func f => .func (.func f) #[] #[]

theorem arr_size (n : Nat) (F : Fr) : (arr n F).size = n := by simp [arr]
theorem arr_get (n : Nat) (F : Fr) (k : Nat) : (arr n F)[k]? = if k < n then some (F k) else none := by
  simp only [arr, List.getElem?_toArray, List.getElem?_map]
  by_cases h : k < n
  · rw [if_pos h, List.getElem?_range h]; rfl
  · rw [if_neg h, List.getElem?_eq_none (by simp; omega)]; rfl
theorem upd_eq (F : Fr) (d : Nat) (v : Value) (k : Nat) : upd F d v k = if k = d then v else F k := by
  unfold upd
  cases h : Nat.beq k d
  · have := Nat.ne_of_beq_eq_false h; simp [this]
  · have := Nat.eq_of_beq_eq_true h; simp [this]
theorem arr_put (n : Nat) (F : Fr) (d : Nat) (v : Value) : (arr n F).setIfInBounds d v = arr n (upd F d v) := by
  apply Array.ext_getElem?
  intro i
  rw [Array.getElem?_setIfInBounds, arr_get, arr_get, arr_size, upd_eq]
  by_cases h : d = i
  · subst h; by_cases h2 : d < n <;> simp [h2]
  · rw [if_neg h]; split
    · rw [if_neg (fun e => h e.symm)]
    · rfl
def act (n : Nat) (ds : List Deferred) (F : Fr) : Act := ⟨arr n F, ds⟩
theorem act_put {n : Nat} {ds : List Deferred} {F : Fr} {d : Nat} {v : Value} : (act n ds F).put (some d) v = act n ds (upd F d v) := by
  simp [act, Act.put, arr_put]
theorem act_none {n : Nat} {ds : List Deferred} {F : Fr} {v : Value} : (act n ds F).put none v = act n ds F := rfl
theorem act_eval {n : Nat} {ds : List Deferred} {F : Fr} {x : Operand} : (act n ds F).eval x = ev n F x := by
  cases x with
  | tmp t =>
    simp only [act, Act.eval, ev, Array.getD_eq_getD_getElem?, arr_get]
    by_cases h : t < n
    · rw [if_pos h, show Nat.blt t n = true by rw [Nat.blt_eq]; exact h]; rfl
    · rw [if_neg h]
      have : Nat.blt t n = false := by rw [Bool.eq_false_iff]; intro e; rw [Nat.blt_eq] at e; exact h e
      rw [this]; rfl
  | _ => rfl
theorem act_eval' {n : Nat} {ds : List Deferred} {F : Fr} : (act n ds F).eval = ev n F := funext fun _ => act_eval
theorem act_ofArgs (l : List Value) (n : Nat) (h : l.length ≤ n) : ({ tmps := l.toArray ++ Array.replicate (n - l.toArray.size) undef, defers := [] } : Act) = act n [] (ofArgs l) := by
  simp only [act, Act.mk.injEq, and_true]
  apply Array.ext_getElem?
  intro i
  rw [arr_get]
  simp only [ofArgs, Array.getElem?_append, List.size_toArray, List.getElem?_toArray, Array.getElem?_replicate]
  by_cases h1 : i < l.length
  · rw [if_pos h1, if_pos (by omega)]; simp [List.getD_eq_getElem?_getD, List.getElem?_eq_getElem h1]
  · rw [if_neg h1]
    by_cases h2 : i < n
    · rw [if_pos h2, if_pos (by omega)]; simp [List.getD_eq_getElem?_getD, List.getElem?_eq_none (Nat.not_lt.1 h1)]
    · rw [if_neg h2, if_neg (by omega)]

/-! ### Code -/
abbrev Po := Exit → Fr → World → Prop
def QA (n : Nat) (ds : List Deferred) (Q : Po) : Exit → Act → World → Prop := fun e a w => ∃ F, a = act n ds F ∧ Q e F w
def Wc (P : Program) (n : Nat) (ds : List Deferred) (Q : Po) (c : Code) (F : Fr) (w : World) : Prop := c.wp P (QA n ds Q) (act n ds F) w
def Wl (P : Program) (n : Nat) (ds : List Deferred) (Q : Po) (ops : List Oper) (l : List Oper) (F : Fr) (w : World) : Prop := wpList P ops.toArray (QA n ds Q) l (act n ds F) w

def Qseq (P : Program) (n : Nat) (ds : List Deferred) (b : Code) (Q : Po) : Po
  | .normal, F, w => Wc P n ds Q b F w
  | e, F, w => Q e F w
def Qblk (id : Nat) (Q : Po) : Po
  | .exit j, F, w => if j = id then Q .normal F w else Q (.exit j) F w
  | e, F, w => Q e F w

section
variable {P : Program} {n : Nat} {ds : List Deferred} {Q : Po} {F : Fr} {w : World}
theorem Wc.seq {a b : Code} (h : Wc P n ds (Qseq P n ds b Q) a F w) : Wc P n ds Q (.seq a b) F w := by
  refine wp_seq (wp_mono h ?_)
  rintro e a' w' ⟨F', rfl, hq⟩
  cases e <;> first | exact hq | exact ⟨F', rfl, hq⟩
theorem Wc.region {id : Nat} {l : List Oper} (h : Wl P n ds Q l l F w) : Wc P n ds Q (.region id l.toArray false) F w := wp_region_lit h
theorem Wc.block {id : Nat} {c : Code} (h : Wc P n ds (Qblk id Q) c F w) : Wc P n ds Q (.block id c) F w := by
  refine wp_block (wp_mono h ?_)
  rintro e a' w' ⟨F', rfl, hq⟩
  cases e with
  | exit j =>
    simp only [Qblk] at hq
    simp only [Exit.inBlock]
    split <;> rename_i hj
    · rw [if_pos hj] at hq; exact ⟨F', rfl, hq⟩
    · rw [if_neg hj] at hq; exact ⟨F', rfl, hq⟩
  | _ => exact ⟨F', rfl, hq⟩
theorem Wc.skip (h : Q .normal F w) : Wc P n ds Q .skip F w := wp_skip ⟨F, rfl, h⟩
theorem Wc.exit {id : Nat} (h : Q (.exit id) F w) : Wc P n ds Q (.exit id) F w := wp_exit ⟨F, rfl, h⟩
theorem Wc.ret (h : Q .ret F w) : Wc P n ds Q .ret F w := wp_ret ⟨F, rfl, h⟩
theorem Wc.cond {c : Operand} {x y : Code} {t : Bool} (hc : ev n F c = .bool t) (ht : t = true → Wc P n ds Q x F w) (hf : t = false → Wc P n ds Q y F w) : Wc P n ds Q (.cond c x y) F w :=
  wp_cond_split (act_eval.trans hc) ht hf
theorem Wc.condT {c : Operand} {x y : Code} (hc : ev n F c = .bool true) (h : Wc P n ds Q x F w) : Wc P n ds Q (.cond c x y) F w := wp_cond_true (act_eval.trans hc) h
theorem Wc.condF {c : Operand} {x y : Code} (hc : ev n F c = .bool false) (h : Wc P n ds Q y F w) : Wc P n ds Q (.cond c x y) F w := wp_cond_false (act_eval.trans hc) h
theorem Qseq.normal {b : Code} (h : Wc P n ds Q b F w) : Qseq P n ds b Q .normal F w := h
theorem Qseq.exit {b : Code} {id : Nat} (h : Q (.exit id) F w) : Qseq P n ds b Q (.exit id) F w := h
theorem Qseq.ret {b : Code} (h : Q .ret F w) : Qseq P n ds b Q .ret F w := h
theorem Qseq.panic {b : Code} {c : List PanicEntry} (h : Q (.panic c) F w) : Qseq P n ds b Q (.panic c) F w := h
theorem Qblk.normal {id : Nat} (h : Q .normal F w) : Qblk id Q .normal F w := h
theorem Qblk.ret {id : Nat} (h : Q .ret F w) : Qblk id Q .ret F w := h
theorem Qblk.panic {id : Nat} {c : List PanicEntry} (h : Q (.panic c) F w) : Qblk id Q (.panic c) F w := h
theorem Qblk.hit {id : Nat} (h : Q .normal F w) : Qblk id Q (.exit id) F w := by simp only [Qblk, if_pos]; exact h
theorem Qblk.miss {id j : Nat} (hj : Nat.beq j id = false) (h : Q (.exit j) F w) : Qblk id Q (.exit j) F w := by
  simp only [Qblk]; rw [if_neg (Nat.ne_of_beq_eq_false hj)]; exact h

/-- A body with a label in it that no jump goes to. -/
def Qsc (Q : Po) : Po
  | .goto _, _, _ => False
  | e, F, w => Q e F w
theorem Wc.scope {c : Code} (h : Wc P n ds (Qsc Q) c F w) : Wc P n ds Q (.scope c) F w := by
  refine wp_scope_straight (wp_mono h ?_)
  rintro e a' w' ⟨F', rfl, hq⟩
  cases e <;> first | exact ⟨F', rfl, hq⟩ | exact hq.elim
theorem Wc.label {l : Nat} (h : Q .normal F w) : Wc P n ds Q (.label l) F w := wp_label ⟨F, rfl, h⟩
theorem Qsc.normal (h : Q .normal F w) : Qsc Q .normal F w := h
theorem Qsc.exit {id : Nat} (h : Q (.exit id) F w) : Qsc Q (.exit id) F w := h
theorem Qsc.ret (h : Q .ret F w) : Qsc Q .ret F w := h

/-! The least number with a property. -/
theorem exists_least {p : Nat → Prop} (h : ∃ m, p m) : ∃ m, p m ∧ ∀ m', p m' → m ≤ m' := by
  obtain ⟨m, hm⟩ := h
  induction m using Nat.strongRecOn with
  | ind m ih =>
    by_cases hlt : ∃ m', p m' ∧ m' < m
    · obtain ⟨m', hj, hl⟩ := hlt; exact ih m' hl hj
    · exact ⟨m, hm, fun m' hj => Nat.not_lt.1 fun hl => hlt ⟨m', hj, hl⟩⟩
noncomputable def least (p : Nat → Prop) : Nat := Classical.epsilon fun m => p m ∧ ∀ m', p m' → m ≤ m'
theorem least_spec {p : Nat → Prop} (h : ∃ m, p m) : p (least p) ∧ ∀ m', p m' → least p ≤ m' := Classical.epsilon_spec (exists_least h)

/-! A loop: ghost states, what slots hold in each, an invariant, a measure. -/
def upds (F : Fr) : List (Nat × Value) → Fr
  | [] => F
  | (d, v) :: r => upd (upds F r) d v
def agrees (F : Fr) : List (Nat × Value) → Prop
  | [] => True
  | (d, v) :: r => F d = v ∧ agrees F r
theorem upd_self {F : Fr} {d : Nat} {v : Value} (h : F d = v) : upd F d v = F := by
  funext k; rw [upd_eq]; split
  · rename_i e; rw [e, h]
  · rfl
theorem upds_of_agrees {F : Fr} : ∀ {l : List (Nat × Value)}, agrees F l → upds F l = F
  | [], _ => rfl
  | (d, v) :: r, h => by simp only [upds, upds_of_agrees h.2]; exact upd_self h.1
def Qloop {σ : Type} (S : σ → List (Nat × Value)) (I : σ → World → Prop) (μ : σ → Nat) (s : σ) (Q : Po) : Po
  | .normal, F, w => ∃ s', agrees F (S s') ∧ I s' w ∧ μ s' < μ s
  | e, F, w => Q e F w
theorem Wc.loop {σ : Type} (S : σ → List (Nat × Value)) (I : σ → World → Prop) (μ : σ → Nat) (s0 : σ) {c : Code}
    (hF : agrees F (S s0)) (h0 : I s0 w) (step : ∀ s G w, I s w → Wc P n ds (Qloop S I μ s Q) c (upds G (S s)) w) : Wc P n ds Q (.loop c) F w := by
  let J : Act → World → Nat → Prop := fun a w m => ∃ s F, a = act n ds F ∧ agrees F (S s) ∧ I s w ∧ μ s = m
  refine wp_loop (fun a w => ∃ m, J a w m) (fun a w => least (J a w)) ⟨_, s0, F, rfl, hF, h0, rfl⟩ ?_
  intro a w hJ
  obtain ⟨⟨s, F, ha, h1, h2, h3⟩, _⟩ := least_spec hJ
  subst ha
  have := step s F w h2
  rw [upds_of_agrees h1] at this
  refine wp_mono this ?_
  rintro e a' w' ⟨F', rfl, hq⟩
  cases e with
  | normal =>
    obtain ⟨s', h1', h2', h3'⟩ := hq
    have hJ' : J (act n ds F') w' (μ s') := ⟨s', F', rfl, h1', h2', rfl⟩
    refine ⟨⟨_, hJ'⟩, ?_⟩
    have := (least_spec ⟨_, hJ'⟩).2 _ hJ'
    omega
  | _ => exact ⟨F', rfl, hq⟩
end

/-- A string by its bytes. -/
abbrev vs (l : List UInt8) : Value := .string ⟨l.toArray⟩
abbrev vi (x : Int) : Value := .int .i64 x
abbrev vb (l : List UInt8) : List Value := l.map fun b => .int .u8 b.toNat

/-- A contract's post: it returned a value of which this is known. -/
def Ret (φ : Value → World → Prop) : Ending → World → Prop := fun e w => ∃ v, e = .returned v ∧ φ v w

def updO (F : Fr) : Option Nat → Value → Fr
  | some d, v => upd F d v
  | none, _ => F
theorem act_putO {n : Nat} {ds : List Deferred} {F : Fr} {d : Option Nat} {v : Value} : (act n ds F).put d v = act n ds (updO F d v) := by
  cases d
  · rfl
  · exact act_put

section
variable {P : Program} {n : Nat} {ds : List Deferred} {Q : Po} {F : Fr} {w w' : World} {ops rest : List Oper} {d d1 d2 : Nat} {ty ty1 ty2 : TypeId} {pos pos1 pos2 : String} {aft aft1 aft2 : Array Edge}

theorem Wl.nil (h : Q .normal F w) : Wl P n ds Q ops [] F w := ⟨F, rfl, h⟩
/-- An operation that yields a value. -/
theorem Wl.valO {dst : Option Nat} {op : Op} {v : Value} (hr : (execOp (ev n F) ⟨dst, op, ty, pos, aft, none⟩).run P w = .ok (.value v) w')
    (k : Wl P n ds Q ops rest (updO F dst v) w') : Wl P n ds Q ops (⟨dst, op, ty, pos, aft, none⟩ :: rest) F w := by
  refine wpList_plain rfl fun K hK => ?_
  unfold Oper.wp
  rw [act_eval', hr, Oper.upon_value]
  refine hK _ _ ?_
  rw [act_putO]
  exact k
theorem Wl.val {op : Op} {v : Value} (hr : (execOp (ev n F) ⟨some d, op, ty, pos, aft, none⟩).run P w = .ok (.value v) w')
    (k : Wl P n ds Q ops rest (upd F d v) w') : Wl P n ds Q ops (⟨some d, op, ty, pos, aft, none⟩ :: rest) F w := Wl.valO hr k
theorem Wl.unit {op : Op} (hr : (execOp (ev n F) ⟨none, op, ty, pos, aft, none⟩).run P w = .ok .skip w')
    (k : Wl P n ds Q ops rest F w') : Wl P n ds Q ops (⟨none, op, ty, pos, aft, none⟩ :: rest) F w := by
  refine wpList_plain rfl fun K hK => ?_
  unfold Oper.wp
  rw [act_eval', hr, Oper.upon_skip]
  exact hK _ _ k

/-! Guards. -/
def yld (ops : List Oper) (n : Nat) (F : Fr) (j : Nat) : Option Bool :=
  match (ops[j]?).bind (·.dst) with
  | some d => match Nat.blt d n with
    | true => match F d with | .bool b => some b | _ => none
    | false => none
  | none => none
theorem yielded_eq {j : Nat} : yielded ops.toArray (arr n F) j = yld ops n F j := by
  unfold yielded yld
  simp only [List.getElem?_toArray]
  cases h : (ops[j]?).bind (·.dst) with
  | none => rfl
  | some d =>
    simp only [Option.bind_some, arr_get]
    by_cases hd : d < n
    · rw [if_pos hd, show Nat.blt d n = true by rw [Nat.blt_eq]; exact hd]; cases F d <;> rfl
    · rw [if_neg hd, show Nat.blt d n = false by rw [Bool.eq_false_iff]; intro e; rw [Nat.blt_eq] at e; exact hd e]
theorem Wl.guardY {o : Oper} {j : Nat} {b : Bool} (hg : o.guard = some (j, b)) (hy : yld ops n F j = some b)
    (k : Wl P n ds Q ops ({ o with guard := none } :: rest) F w) : Wl P n ds Q ops (o :: rest) F w := by
  have hw : Region.wanted o (yielded ops.toArray (act n ds F).tmps) = true := by
    simp only [Region.wanted, hg, act, yielded_eq, hy]; simp
  have hw2 : Region.wanted { o with guard := none } (yielded ops.toArray (act n ds F).tmps) = true := rfl
  unfold Wl wpList at k ⊢
  rw [if_pos hw]
  rw [if_pos hw2] at k
  exact k
theorem Wl.guardN {op : Op} {j : Nat} {b c : Bool} (hy : yld ops n F j = some c) (hbc : (c == b) = false)
    (k : Wl P n ds Q ops rest (upd F d undef) w) : Wl P n ds Q ops (⟨some d, op, ty, pos, aft, some (j, b)⟩ :: rest) F w := by
  have hw : Region.wanted ⟨some d, op, ty, pos, aft, some (j, b)⟩ (yielded ops.toArray (act n ds F).tmps) = false := by
    simp only [Region.wanted, act, yielded_eq, hy]; simpa using hbc
  unfold Wl wpList
  rw [if_neg (by rw [hw]; simp), act_put]
  exact k

/-! Plain operations. -/
theorem Wl.move {x : Operand} (k : Wl P n ds Q ops rest (upd F d (ev n F x)) w) : Wl P n ds Q ops (⟨some d, .move x, ty, pos, aft, none⟩ :: rest) F w :=
  Wl.val (by simp [execOp]) k
theorem Wl.assign {x : Operand} (k : Wl P n ds Q ops rest (upd F d (ev n F x)) w) : Wl P n ds Q ops (⟨some d, .assign x, ty, pos, aft, none⟩ :: rest) F w :=
  Wl.val (by simp [execOp]) k
theorem Wl.extract {x : Operand} {i : Nat} {l : List Value} {v : Value} (h : ev n F x = .tuple l.toArray) (hi : l[i]? = some v)
    (k : Wl P n ds Q ops rest (upd F d v) w) : Wl P n ds Q ops (⟨some d, .extract x i, ty, pos, aft, none⟩ :: rest) F w :=
  Wl.val (by simp [execOp, h, Instr.extract, hi]) k
theorem Wl.pickT {c a b : Operand} (h : ev n F c = .bool true) (k : Wl P n ds Q ops rest (upd F d (ev n F a)) w) : Wl P n ds Q ops (⟨some d, .pick c a b, ty, pos, aft, none⟩ :: rest) F w :=
  Wl.val (by simp [execOp, h, asBool]) k
theorem Wl.pickF {c a b : Operand} (h : ev n F c = .bool false) (k : Wl P n ds Q ops rest (upd F d (ev n F b)) w) : Wl P n ds Q ops (⟨some d, .pick c a b, ty, pos, aft, none⟩ :: rest) F w :=
  Wl.val (by simp [execOp, h, asBool]) k
/-! The same, with the value told: frames stay small. -/
theorem Wl.moveE {x : Operand} {v : Value} (h : ev n F x = v) (k : Wl P n ds Q ops rest (upd F d v) w) : Wl P n ds Q ops (⟨some d, .move x, ty, pos, aft, none⟩ :: rest) F w :=
  Wl.move (h ▸ k)
theorem Wl.assignE {x : Operand} {v : Value} (h : ev n F x = v) (k : Wl P n ds Q ops rest (upd F d v) w) : Wl P n ds Q ops (⟨some d, .assign x, ty, pos, aft, none⟩ :: rest) F w :=
  Wl.assign (h ▸ k)
theorem Wl.pickTE {c a b : Operand} {v : Value} (h : ev n F c = .bool true) (h' : ev n F a = v) (k : Wl P n ds Q ops rest (upd F d v) w) : Wl P n ds Q ops (⟨some d, .pick c a b, ty, pos, aft, none⟩ :: rest) F w :=
  Wl.pickT h (h' ▸ k)
theorem Wl.pickFE {c a b : Operand} {v : Value} (h : ev n F c = .bool false) (h' : ev n F b = v) (k : Wl P n ds Q ops rest (upd F d v) w) : Wl P n ds Q ops (⟨some d, .pick c a b, ty, pos, aft, none⟩ :: rest) F w :=
  Wl.pickF h (h' ▸ k)
/-- A frame by the slots that are still wanted. -/
theorem Wl.frame (S : List (Nat × Value)) (h : agrees F S) (k : ∀ G, Wl P n ds Q ops rest (upds G S) w) : Wl P n ds Q ops rest F w := by
  have := k F; rwa [upds_of_agrees h] at this
theorem Wc.frame {c : Code} (S : List (Nat × Value)) (h : agrees F S) (k : ∀ G, Wc P n ds Q c (upds G S) w) : Wc P n ds Q c F w := by
  have := k F; rwa [upds_of_agrees h] at this
theorem Wl.notB {x : Operand} {t : TypeId} {b : Bool} (h : ev n F x = .bool b) (k : Wl P n ds Q ops rest (upd F d (.bool !b)) w) : Wl P n ds Q ops (⟨some d, .unOp .not t x, ty, pos, aft, none⟩ :: rest) F w :=
  Wl.val (by simp [execOp, h, Op.unary]) k

theorem run_eqGuard_int {op : BinOp} {t : TypeId} {x y : Operand} {k k' : IntKind} {a b : Int} : (eqGuard op t x y (.int k a) (.int k' b)).run P w = .ok () w := by
  unfold eqGuard; split <;> simp
theorem run_eqGuard_str {op : BinOp} {t : TypeId} {x y : Operand} {a b : ByteArray} : (eqGuard op t x y (.string a) (.string b)).run P w = .ok () w := by
  unfold eqGuard; split <;> simp
theorem run_eqGuard_bool {op : BinOp} {t : TypeId} {x y : Operand} {a b : Bool} : (eqGuard op t x y (.bool a) (.bool b)).run P w = .ok () w := by
  unfold eqGuard; split <;> simp

section cmp
variable {x y : Operand} {t t' : TypeId} {a b : Int} {k : IntKind}
theorem Wl.cmp {op : BinOp} {r : Bool} (hr : Op.intCmp op a b = pure (.bool r)) (hop : op ≠ .add ∧ op ≠ .sub ∧ op ≠ .mul ∧ op ≠ .quo ∧ op ≠ .rem ∧ op ≠ .and ∧ op ≠ .or ∧ op ≠ .xor ∧ op ≠ .andNot ∧ op ≠ .shl ∧ op ≠ .shr) (hx : ev n F x = .int k a) (hy : ev n F y = .int k b)
    (c : Wl P n ds Q ops rest (upd F d (.bool r)) w) : Wl P n ds Q ops (⟨some d, .binOp op t x y t', ty, pos, aft, none⟩ :: rest) F w := by
  refine Wl.val ?_ c
  simp only [execOp, hx, hy, Sem.run_bind, run_eqGuard_int, Result.andThen_ok]
  have : binOp op t (.int k a) (.int k b) = Op.intCmp op a b := by cases op <;> simp_all [binOp]
  rw [this, hr]; rfl
theorem Wl.lss (hx : ev n F x = .int k a) (hy : ev n F y = .int k b) (ht : a < b → Wl P n ds Q ops rest (upd F d (.bool true)) w) (hf : b ≤ a → Wl P n ds Q ops rest (upd F d (.bool false)) w) :
    Wl P n ds Q ops (⟨some d, .binOp .lss t x y t', ty, pos, aft, none⟩ :: rest) F w := by
  by_cases h : a < b
  · exact Wl.cmp (r := true) (by rw [show Op.intCmp .lss a b = pure (.bool (decide (a < b))) from rfl, decide_eq_true h]) (by simp) hx hy (ht h)
  · exact Wl.cmp (r := false) (by rw [show Op.intCmp .lss a b = pure (.bool (decide (a < b))) from rfl, decide_eq_false h]) (by simp) hx hy (hf (Int.not_lt.1 h))
theorem Wl.leq (hx : ev n F x = .int k a) (hy : ev n F y = .int k b) (ht : a ≤ b → Wl P n ds Q ops rest (upd F d (.bool true)) w) (hf : b < a → Wl P n ds Q ops rest (upd F d (.bool false)) w) :
    Wl P n ds Q ops (⟨some d, .binOp .leq t x y t', ty, pos, aft, none⟩ :: rest) F w := by
  by_cases h : a ≤ b
  · exact Wl.cmp (r := true) (by rw [show Op.intCmp .leq a b = pure (.bool (decide (a ≤ b))) from rfl, decide_eq_true h]) (by simp) hx hy (ht h)
  · exact Wl.cmp (r := false) (by rw [show Op.intCmp .leq a b = pure (.bool (decide (a ≤ b))) from rfl, decide_eq_false h]) (by simp) hx hy (hf (Int.not_le.1 h))
theorem Wl.gtr (hx : ev n F x = .int k a) (hy : ev n F y = .int k b) (ht : b < a → Wl P n ds Q ops rest (upd F d (.bool true)) w) (hf : a ≤ b → Wl P n ds Q ops rest (upd F d (.bool false)) w) :
    Wl P n ds Q ops (⟨some d, .binOp .gtr t x y t', ty, pos, aft, none⟩ :: rest) F w := by
  by_cases h : b < a
  · exact Wl.cmp (r := true) (by rw [show Op.intCmp .gtr a b = pure (.bool (decide (a > b))) from rfl, decide_eq_true h]) (by simp) hx hy (ht h)
  · exact Wl.cmp (r := false) (by rw [show Op.intCmp .gtr a b = pure (.bool (decide (a > b))) from rfl, decide_eq_false h]) (by simp) hx hy (hf (Int.not_lt.1 h))
theorem Wl.geq (hx : ev n F x = .int k a) (hy : ev n F y = .int k b) (ht : b ≤ a → Wl P n ds Q ops rest (upd F d (.bool true)) w) (hf : a < b → Wl P n ds Q ops rest (upd F d (.bool false)) w) :
    Wl P n ds Q ops (⟨some d, .binOp .geq t x y t', ty, pos, aft, none⟩ :: rest) F w := by
  by_cases h : b ≤ a
  · exact Wl.cmp (r := true) (by rw [show Op.intCmp .geq a b = pure (.bool (decide (a ≥ b))) from rfl, decide_eq_true h]) (by simp) hx hy (ht h)
  · exact Wl.cmp (r := false) (by rw [show Op.intCmp .geq a b = pure (.bool (decide (a ≥ b))) from rfl, decide_eq_false h]) (by simp) hx hy (hf (Int.not_le.1 h))
theorem Wl.eql (hx : ev n F x = .int k a) (hy : ev n F y = .int k b) (ht : a = b → Wl P n ds Q ops rest (upd F d (.bool true)) w) (hf : a ≠ b → Wl P n ds Q ops rest (upd F d (.bool false)) w) :
    Wl P n ds Q ops (⟨some d, .binOp .eql t x y t', ty, pos, aft, none⟩ :: rest) F w := by
  by_cases h : a = b
  · exact Wl.cmp (r := true) (by rw [show Op.intCmp .eql a b = pure (.bool (a == b)) from rfl, show (a == b) = true from beq_iff_eq.2 h]) (by simp) hx hy (ht h)
  · exact Wl.cmp (r := false) (by rw [show Op.intCmp .eql a b = pure (.bool (a == b)) from rfl, show (a == b) = false from beq_eq_false_iff_ne.2 h]) (by simp) hx hy (hf h)
theorem Wl.neq (hx : ev n F x = .int k a) (hy : ev n F y = .int k b) (ht : a ≠ b → Wl P n ds Q ops rest (upd F d (.bool true)) w) (hf : a = b → Wl P n ds Q ops rest (upd F d (.bool false)) w) :
    Wl P n ds Q ops (⟨some d, .binOp .neq t x y t', ty, pos, aft, none⟩ :: rest) F w := by
  by_cases h : a = b
  · exact Wl.cmp (r := false) (by rw [show Op.intCmp .neq a b = pure (.bool (a != b)) from rfl, show (a != b) = false from by simpa using h]) (by simp) hx hy (hf h)
  · exact Wl.cmp (r := true) (by rw [show Op.intCmp .neq a b = pure (.bool (a != b)) from rfl, show (a != b) = true from by simpa using h]) (by simp) hx hy (ht h)
end cmp

section str
variable {x y : Operand} {t t' : TypeId} {a b : List UInt8}
theorem Wl.seql (hx : ev n F x = vs a) (hy : ev n F y = vs b) (ht : a = b → Wl P n ds Q ops rest (upd F d (.bool true)) w) (hf : a ≠ b → Wl P n ds Q ops rest (upd F d (.bool false)) w) :
    Wl P n ds Q ops (⟨some d, .binOp .eql t x y t', ty, pos, aft, none⟩ :: rest) F w := by
  by_cases h : a = b
  · exact Wl.val (by simp only [execOp, hx, hy, Sem.run_bind, run_eqGuard_str, Result.andThen_ok, binOp_string_eql, ByteArray.toList_mk, Sem.run_pure, beq_iff_eq.2 h]) (ht h)
  · exact Wl.val (by simp only [execOp, hx, hy, Sem.run_bind, run_eqGuard_str, Result.andThen_ok, binOp_string_eql, ByteArray.toList_mk, Sem.run_pure, beq_eq_false_iff_ne.2 h]) (hf h)
theorem Wl.sneq (hx : ev n F x = vs a) (hy : ev n F y = vs b) (ht : a ≠ b → Wl P n ds Q ops rest (upd F d (.bool true)) w) (hf : a = b → Wl P n ds Q ops rest (upd F d (.bool false)) w) :
    Wl P n ds Q ops (⟨some d, .binOp .neq t x y t', ty, pos, aft, none⟩ :: rest) F w := by
  by_cases h : a = b
  · exact Wl.val (by simp only [execOp, hx, hy, Sem.run_bind, run_eqGuard_str, Result.andThen_ok, binOp_string_neq, ByteArray.toList_mk, Sem.run_pure, beq_iff_eq.2 h, Bool.not_true]) (hf h)
  · exact Wl.val (by simp only [execOp, hx, hy, Sem.run_bind, run_eqGuard_str, Result.andThen_ok, binOp_string_neq, ByteArray.toList_mk, Sem.run_pure, beq_eq_false_iff_ne.2 h, Bool.not_false]) (ht h)
theorem Wl.sneqSame (hx : ev n F x = vs a) (hy : ev n F y = vs a) (h : Wl P n ds Q ops rest (upd F d (.bool false)) w) : Wl P n ds Q ops (⟨some d, .binOp .neq t x y t', ty, pos, aft, none⟩ :: rest) F w :=
  Wl.sneq hx hy (fun e => absurd rfl e) fun _ => h
theorem Wl.seqlSame (hx : ev n F x = vs a) (hy : ev n F y = vs a) (h : Wl P n ds Q ops rest (upd F d (.bool true)) w) : Wl P n ds Q ops (⟨some d, .binOp .eql t x y t', ty, pos, aft, none⟩ :: rest) F w :=
  Wl.seql hx hy (fun _ => h) fun e => absurd rfl e
theorem Wl.sadd (hx : ev n F x = vs a) (hy : ev n F y = vs b) (hb : a.length + b.length ≤ 9223372036854775807) (c : Wl P n ds Q ops rest (upd F d (vs (a ++ b))) w) :
    Wl P n ds Q ops (⟨some d, .binOp .add t x y t', ty, pos, aft, none⟩ :: rest) F w := by
  refine Wl.val ?_ c
  have h1 : ¬ (((a.length + b.length : Nat) : Int) > IntKind.i64.max) := by simp [IntKind.max, IntKind.signed, IntKind.bits]; omega
  have h2 : (⟨a.toArray⟩ : ByteArray) ++ ⟨b.toArray⟩ = ⟨(a ++ b).toArray⟩ := by
    apply ByteArray.ext; simp [ByteArray.data_append]
  simp only [execOp, hx, hy, Sem.run_bind, run_eqGuard_str, Result.andThen_ok, binOp_string_add, Op.stringOp, ByteArray.size, List.size_toArray]
  rw [if_neg h1, h2]; rfl
end str

section arith
variable {x y : Operand} {t t' : TypeId} {a b : Int} {k : IntKind}
theorem wrap64_id {a : Int} (h0 : -9223372036854775808 ≤ a) (h1 : a ≤ 9223372036854775807) : IntKind.i64.wrap a = a := by rw [IntKind.wrap_i64]; omega
theorem Wl.add (hx : ev n F x = .int .i64 a) (hy : ev n F y = .int .i64 b) (h0 : -9223372036854775808 ≤ a + b) (h1 : a + b ≤ 9223372036854775807)
    (c : Wl P n ds Q ops rest (upd F d (.int .i64 (a + b))) w) : Wl P n ds Q ops (⟨some d, .binOp .add t x y t', ty, pos, aft, none⟩ :: rest) F w :=
  Wl.val (by simp [execOp, hx, hy, run_eqGuard_int, binOp, Op.intArith, wrap64_id h0 h1]) c
theorem Wl.sub (hx : ev n F x = .int .i64 a) (hy : ev n F y = .int .i64 b) (h0 : -9223372036854775808 ≤ a - b) (h1 : a - b ≤ 9223372036854775807)
    (c : Wl P n ds Q ops rest (upd F d (.int .i64 (a - b))) w) : Wl P n ds Q ops (⟨some d, .binOp .sub t x y t', ty, pos, aft, none⟩ :: rest) F w :=
  Wl.val (by simp [execOp, hx, hy, run_eqGuard_int, binOp, Op.intArith, wrap64_id h0 h1]) c
theorem Wl.mul (hx : ev n F x = .int .i64 a) (hy : ev n F y = .int .i64 b) (h0 : -9223372036854775808 ≤ a * b) (h1 : a * b ≤ 9223372036854775807)
    (c : Wl P n ds Q ops rest (upd F d (.int .i64 (a * b))) w) : Wl P n ds Q ops (⟨some d, .binOp .mul t x y t', ty, pos, aft, none⟩ :: rest) F w :=
  Wl.val (by simp [execOp, hx, hy, run_eqGuard_int, binOp, Op.intArith, wrap64_id h0 h1]) c
theorem Wl.addW (hx : ev n F x = .int k a) (hy : ev n F y = .int k b)
    (c : Wl P n ds Q ops rest (upd F d (.int k (k.wrap (a + b)))) w) : Wl P n ds Q ops (⟨some d, .binOp .add t x y t', ty, pos, aft, none⟩ :: rest) F w :=
  Wl.val (by simp [execOp, hx, hy, run_eqGuard_int, binOp, Op.intArith]) c
theorem Wl.subW (hx : ev n F x = .int k a) (hy : ev n F y = .int k b)
    (c : Wl P n ds Q ops rest (upd F d (.int k (k.wrap (a - b)))) w) : Wl P n ds Q ops (⟨some d, .binOp .sub t x y t', ty, pos, aft, none⟩ :: rest) F w :=
  Wl.val (by simp [execOp, hx, hy, run_eqGuard_int, binOp, Op.intArith]) c
theorem Wl.mulW (hx : ev n F x = .int k a) (hy : ev n F y = .int k b)
    (c : Wl P n ds Q ops rest (upd F d (.int k (k.wrap (a * b)))) w) : Wl P n ds Q ops (⟨some d, .binOp .mul t x y t', ty, pos, aft, none⟩ :: rest) F w :=
  Wl.val (by simp [execOp, hx, hy, run_eqGuard_int, binOp, Op.intArith]) c
theorem Wl.quoW (hx : ev n F x = .int k a) (hy : ev n F y = .int k b) (h0 : b ≠ 0)
    (c : Wl P n ds Q ops rest (upd F d (.int k (k.wrap (a.tdiv b)))) w) : Wl P n ds Q ops (⟨some d, .binOp .quo t x y t', ty, pos, aft, none⟩ :: rest) F w :=
  Wl.val (by simp [execOp, hx, hy, run_eqGuard_int, binOp, Op.intDiv, h0]) c
theorem Wl.remW (hx : ev n F x = .int k a) (hy : ev n F y = .int k b) (h0 : b ≠ 0)
    (c : Wl P n ds Q ops rest (upd F d (.int k (a.tmod b))) w) : Wl P n ds Q ops (⟨some d, .binOp .rem t x y t', ty, pos, aft, none⟩ :: rest) F w :=
  Wl.val (by simp [execOp, hx, hy, run_eqGuard_int, binOp, Op.intDiv, h0]) c
theorem Wl.shrW {k' : IntKind} (hx : ev n F x = .int k a) (hy : ev n F y = .int k' b) (h0 : 0 ≤ b)
    (c : Wl P n ds Q ops rest (upd F d (.int k (a.fdiv (2 ^ (min b.toNat k.bits))))) w) : Wl P n ds Q ops (⟨some d, .binOp .shr t x y t', ty, pos, aft, none⟩ :: rest) F w :=
  Wl.val (by simp [execOp, hx, hy, run_eqGuard_int, binOp, Op.shift, Int.not_lt.2 h0]) c
theorem Wl.shlW {k' : IntKind} (hx : ev n F x = .int k a) (hy : ev n F y = .int k' b) (h0 : 0 ≤ b)
    (c : Wl P n ds Q ops rest (upd F d (.int k (k.wrap (a * 2 ^ (min b.toNat k.bits))))) w) : Wl P n ds Q ops (⟨some d, .binOp .shl t x y t', ty, pos, aft, none⟩ :: rest) F w :=
  Wl.val (by simp [execOp, hx, hy, run_eqGuard_int, binOp, Op.shift, Int.not_lt.2 h0]) c
theorem Wl.convI {k' : IntKind} {u : TypeDesc} [hu : Und P t' (.int k')] [ht : Und P t u] (hx : ev n F x = .int k a)
    (c : Wl P n ds Q ops rest (upd F d (.int k' (k'.wrap a))) w) : Wl P n ds Q ops (⟨some d, .convert t t' x, ty, pos, aft, none⟩ :: rest) F w := by
  refine Wl.val ?_ c
  simp only [execOp, hx, Sem.run_bind, convert, run_underlying ht.h, run_underlying hu.h, Result.andThen_ok, Conv.intToInt, Sem.run_pure]
end arith

/-! Calls of functions with a body. -/
class Callable (P : Program) (f : FuncId) : Prop where
  ex : ∃ fn, P.funcs[f]? = some fn ∧ (fn.name == "runtime.NumGoroutine") = false ∧ fn.body.isNone = false
theorem run_callFunc {f : FuncId} (hc : Callable P f) (args : Array Value) : (callFunc f args).run P w = .ok (.enter f args) w := by
  obtain ⟨fn, h1, h2, h3⟩ := hc.ex
  have h2' : ¬ fn.name = "runtime.NumGoroutine" := by simpa using h2
  have h3' : ¬ fn.body = none := by intro e; rw [e] at h3; simp at h3
  simp [callFunc, h1, h2', h3']
theorem Wl.callV {dst : Option Nat} {g : Operand} {args : List Operand} {ts : Array TypeId} {f : FuncId} {first cap : Array Value} {vs : List Value} {φ : Value → World → Prop}
    [hc : Callable P f] (hg : ev n F g = .func (.func f) first cap)
    (h : Calls P f vs.toArray w (Ret φ)) (ha : first.toList ++ (args.map (ev n F) ++ cap.toList) = vs) (k : ∀ v w', φ v w' → Wl P n ds Q ops rest (updO F dst v) w') :
    Wl P n ds Q ops (⟨dst, .call { callee := .value g, args := args.toArray, argTypes := ts }, ty, pos, aft, none⟩ :: rest) F w := by
  refine wpList_plain rfl fun K hK => ?_
  unfold Oper.wp
  have e : (execOp (ev n F) ⟨dst, .call { callee := .value g, args := args.toArray, argTypes := ts }, ty, pos, aft, none⟩).run P w = .ok (.enter f vs.toArray) w := by
    subst ha
    simp only [execOp, resolve, hg, Deferred.ofValue, Sem.run_bind, Sem.run_pure, Result.andThen_ok, invoke, run_callFunc hc]
    congr 3
    apply Array.ext'
    simp
  rw [act_eval', e, Oper.upon_enter]
  refine h.mono ?_
  rintro _ w'' ⟨v, rfl, hv⟩
  dsimp only
  refine hK _ _ ?_
  rw [act_putO]
  exact k v w'' hv
theorem Wl.call {args : List Operand} {ts : Array TypeId} {f : FuncId} {vs : List Value} {φ : Value → World → Prop}
    [hc : Callable P f] (h : Calls P f vs.toArray w (Ret φ)) (ha : args.map (ev n F) = vs) (k : ∀ v w', φ v w' → Wl P n ds Q ops rest (upd F d v) w') :
    Wl P n ds Q ops (⟨some d, .call { callee := .value (.func f), args := args.toArray, argTypes := ts }, ty, pos, aft, none⟩ :: rest) F w :=
  Wl.callV (dst := some d) (first := #[]) (cap := #[]) rfl h (by simpa using ha) k
theorem Wl.call0 {args : List Operand} {ts : Array TypeId} {f : FuncId} {vs : List Value} {φ : Value → World → Prop}
    [hc : Callable P f] (h : Calls P f vs.toArray w (Ret φ)) (ha : args.map (ev n F) = vs) (k : ∀ v w', φ v w' → Wl P n ds Q ops rest F w') :
    Wl P n ds Q ops (⟨none, .call { callee := .value (.func f), args := args.toArray, argTypes := ts }, ty, pos, aft, none⟩ :: rest) F w :=
  Wl.callV (dst := none) (first := #[]) (cap := #[]) rfl h (by simpa using ha) k

/-! A function's entry and end. -/
def Qfn (P : Program) (n : Nat) (fn : Func) (R : Ending → World → Prop) : Po
  | .normal, F, w | .ret, F, w => ∃ v, (results fn (arr n F)).run P w = .ok v w ∧ R (.returned v) w
  | .panic chain, _, w => R (.panicked chain) w
  | .outgrown, _, w => R .outgrown w
  | _, _, _ => False
theorem calls_of_Wc {f : FuncId} {fn : Func} {c : Code} {l : List Value} {R : Ending → World → Prop} (hf : P.funcs[f]? = some fn) (hb : fn.body = some c) (hn : fn.ntmps = n)
    (hl : Nat.ble l.length n = true) (h : Wc P n [] (Qfn P n fn R) c (ofArgs l) w) : Calls P f l.toArray w R := by
  refine calls_of_wp hf hb ?_
  rw [hn, act_ofArgs l n (Nat.le_of_ble_eq_true hl)]
  refine wp_mono h ?_
  rintro e a w ⟨F, rfl, hq⟩
  cases e <;> first | exact ⟨rfl, hq⟩ | exact hq
theorem Qfn.ret1 {fn : Func} {R : Ending → World → Prop} {t : Nat} (h : fn.results = #[.tmp t]) (ht : Nat.blt t n = true) (k : R (.returned (F t)) w) : Qfn P n fn R .ret F w := by
  refine ⟨F t, ?_, k⟩
  rw [results_tmp h, Array.getD_eq_getD_getElem?, arr_get, if_pos (by rwa [Nat.blt_eq] at ht)]; rfl
theorem Qfn.ret2 {fn : Func} {R : Ending → World → Prop} {t u : Nat} (h : fn.results = #[.tmp t, .tmp u]) (ht : Nat.blt t n = true) (hu : Nat.blt u n = true) (k : R (.returned (.tuple #[F t, F u])) w) : Qfn P n fn R .ret F w := by
  refine ⟨.tuple #[F t, F u], ?_, k⟩
  rw [results_tmp2 h, Array.getD_eq_getD_getElem?, arr_get, if_pos (by rwa [Nat.blt_eq] at ht), Array.getD_eq_getD_getElem?, arr_get, if_pos (by rwa [Nat.blt_eq] at hu)]; rfl
theorem Qfn.ret3 {fn : Func} {R : Ending → World → Prop} {t u s : Nat} (h : fn.results = #[.tmp t, .tmp u, .tmp s]) (ht : Nat.blt t n = true) (hu : Nat.blt u n = true) (hs : Nat.blt s n = true) (k : R (.returned (.tuple #[F t, F u, F s])) w) : Qfn P n fn R .ret F w := by
  refine ⟨.tuple #[F t, F u, F s], ?_, k⟩
  simp only [results, h]
  simp [arr_get, Array.getD_eq_getD_getElem?, (by rwa [Nat.blt_eq] at ht : t < n), (by rwa [Nat.blt_eq] at hu : u < n), (by rwa [Nat.blt_eq] at hs : s < n)]
theorem Qloop.normal {σ : Type} {S : σ → List (Nat × Value)} {I : σ → World → Prop} {μ : σ → Nat} {s : σ} (s' : σ) (h1 : agrees F (S s')) (h2 : I s' w) (h3 : μ s' < μ s) : Qloop S I μ s Q .normal F w := ⟨s', h1, h2, h3⟩
theorem Qloop.exit {σ : Type} {S : σ → List (Nat × Value)} {I : σ → World → Prop} {μ : σ → Nat} {s : σ} {id : Nat} (h : Q (.exit id) F w) : Qloop S I μ s Q (.exit id) F w := h
theorem Qloop.ret {σ : Type} {S : σ → List (Nat × Value)} {I : σ → World → Prop} {μ : σ → Nat} {s : σ} (h : Q .ret F w) : Qloop S I μ s Q .ret F w := h
theorem Qloop.panic {σ : Type} {S : σ → List (Nat × Value)} {I : σ → World → Prop} {μ : σ → Nat} {s : σ} {c : List PanicEntry} (h : Q (.panic c) F w) : Qloop S I μ s Q (.panic c) F w := h
theorem Qfn.ret0 {fn : Func} {R : Ending → World → Prop} (h : fn.results = #[]) (k : R (.returned (.tuple #[])) w) : Qfn P n fn R .ret F w :=
  ⟨_, results_none h _ _ _, k⟩
theorem Qfn.end0 {fn : Func} {R : Ending → World → Prop} (h : fn.results = #[]) (k : R (.returned (.tuple #[])) w) : Qfn P n fn R .normal F w :=
  ⟨_, results_none h _ _ _, k⟩
end
attribute [irreducible] Wl Wc Qseq Qblk Qfn Qloop Qsc
end Go.Proofs.YtpnpllghabbhlaaGreatDoor.Wk

namespace Go.Proofs.YtpnpllghabbhlaaGreatDoor.Wk
open Go Go.RowKit

/-! ### Readings -/
/-- The blocks with P read in w' as in w. -/
def Keep (Pb : Nat → Prop) (w w' : World) : Prop := ∀ b, Pb b → b < w.heap.size → w'.heap[b]? = w.heap[b]?
abbrev Rel (α : Type) := (Nat → Prop) → World → α → List Value → Prop
def Stable {α : Type} (R : Rel α) : Prop := ∀ Pb w w' x cs, Keep Pb w w' → R Pb w x cs → R Pb w' x cs
def Mono {α : Type} (R : Rel α) : Prop := ∀ (Pb Pb' : Nat → Prop) w x cs, (∀ b, b < w.heap.size → Pb b → Pb' b) → R Pb w x cs → R Pb' w x cs
/-- A plain element of one cell. -/
def one {α : Type} (f : α → Value) : Rel α := fun _ _ x cs => cs = [f x]
/-- A plain element of several cells. -/
def flat {α : Type} (f : α → List Value) : Rel α := fun _ _ x cs => cs = f x
theorem stable_one {α : Type} (f : α → Value) : Stable (one f) := fun _ _ _ _ _ _ h => h
theorem mono_one {α : Type} (f : α → Value) : Mono (one f) := fun _ _ _ _ _ _ h => h
theorem stable_flat {α : Type} (f : α → List Value) : Stable (flat f) := fun _ _ _ _ _ _ h => h
theorem mono_flat {α : Type} (f : α → List Value) : Mono (flat f) := fun _ _ _ _ _ _ h => h

/-- The slice value v reads as the list xs, each element of sz cells by R; it lies in blocks with P. -/
def RdS {α : Type} (R : Rel α) (sz : Nat) (Pb : Nat → Prop) (w : World) (v : Value) (xs : List α) : Prop :=
  (v = .slice none 0 0 ∧ xs = []) ∨ (∃ a cap, v = .slice (some a) 0 cap ∧ xs = [] ∧ cap ≤ maxLen) ∨
  ∃ b off cap cur e fr, v = .slice (some ⟨b, off, none⟩) xs.length cap ∧ Pb b ∧ w.heap[b]? = some (.cells cur e fr) ∧ xs.length ≤ cap ∧ cap ≤ maxLen ∧ off + xs.length * sz ≤ cur.size ∧
    ∀ (i : Nat) (x : α), xs[i]? = some x → R Pb w x ((cur.toList.drop (off + i * sz)).take sz)

section
variable {α : Type} {R : Rel α} {sz : Nat} {Pb : Nat → Prop} {w w' : World} {v : Value} {xs : List α}
theorem heap_lt {w : World} {b : Nat} {o : Obj} (h : w.heap[b]? = some o) : b < w.heap.size := (Array.getElem?_eq_some_iff.1 h).1
theorem RdS.keep (hR : Stable R) (hk : Keep Pb w w') (h : RdS R sz Pb w v xs) : RdS R sz Pb w' v xs := by
  rcases h with h | h | ⟨b, off, cap, cur, e, fr, hv, hb, hh, h1, h2, h3, h4⟩
  · exact .inl h
  · exact .inr (.inl h)
  · exact .inr <| .inr ⟨b, off, cap, cur, e, fr, hv, hb, (hk b hb (heap_lt hh)).trans hh, h1, h2, h3, fun i x hx => hR _ _ _ _ _ hk (h4 i x hx)⟩
theorem RdS.mono (hR : Mono R) {Pb' : Nat → Prop} (hP : ∀ b, b < w.heap.size → Pb b → Pb' b) (h : RdS R sz Pb w v xs) : RdS R sz Pb' w v xs := by
  rcases h with h | h | ⟨b, off, cap, cur, e, fr, hv, hb, hh, h1, h2, h3, h4⟩
  · exact .inl h
  · exact .inr (.inl h)
  · exact .inr <| .inr ⟨b, off, cap, cur, e, fr, hv, hP b (heap_lt hh) hb, hh, h1, h2, h3, fun i x hx => hR _ _ _ _ _ hP (h4 i x hx)⟩
theorem RdS.nil : RdS R sz Pb w (.slice none 0 0) [] := .inl ⟨rfl, rfl⟩
theorem RdS.form (h : RdS R sz Pb w v xs) : ∃ a cap, v = .slice a xs.length cap ∧ xs.length ≤ cap ∧ cap ≤ maxLen := by
  rcases h with ⟨rfl, rfl⟩ | ⟨a, cap, rfl, rfl, hc⟩ | ⟨b, off, cap, cur, e, fr, rfl, _, _, h1, h2, _, _⟩
  · exact ⟨none, 0, rfl, Nat.le_refl _, by unfold maxLen; omega⟩
  · exact ⟨some a, cap, rfl, Nat.zero_le _, hc⟩
  · exact ⟨_, cap, rfl, h1, h2⟩
theorem Stable.RdS (hR : Stable R) (sz : Nat) : Stable (fun Pb w (xs : List α) cs => ∃ v, cs = [v] ∧ RdS R sz Pb w v xs) := fun _ _ _ _ _ hk ⟨v, e, h⟩ => ⟨v, e, h.keep hR hk⟩
theorem Mono.RdS (hR : Mono R) (sz : Nat) : Mono (fun Pb w (xs : List α) cs => ∃ v, cs = [v] ∧ RdS R sz Pb w v xs) := fun _ _ _ _ _ hP ⟨v, e, h⟩ => ⟨v, e, h.mono hR hP⟩
theorem addr_add (b off i : Nat) : (⟨b, off, none⟩ : Addr).add i = ⟨b, off + i, none⟩ := by unfold Addr.add; split <;> simp_all
theorem RdS.cells (h : RdS R sz Pb w v xs) {i : Nat} {x : α} (hx : xs[i]? = some x) :
    ∃ b off cap, v = .slice (some ⟨b, off, none⟩) xs.length cap ∧ i < xs.length ∧ ∃ cs, cs.length = sz ∧ R Pb w x cs ∧ ∀ j u, cs[j]? = some u → w.cell? ⟨b, off + i * sz + j, none⟩ = some u := by
  have hi : i < xs.length := (List.getElem?_eq_some_iff.1 hx).1
  rcases h with ⟨_, rfl⟩ | ⟨_, _, _, rfl, _⟩ | ⟨b, off, cap, cur, e, fr, rfl, hb, hh, h1, h2, h3, h4⟩
  · simp at hi
  · simp at hi
  · refine ⟨b, off, cap, rfl, hi, _, ?_, h4 i x hx, ?_⟩
    · have : (i + 1) * sz ≤ xs.length * sz := Nat.mul_le_mul_right _ hi
      rw [Nat.add_mul] at this
      simp only [List.length_take, List.length_drop, Array.length_toList]
      omega
    · intro j u hu
      rw [List.getElem?_take] at hu
      split at hu
      · rw [List.getElem?_drop] at hu
        simp only [World.cell?, hh]
        simpa using hu
      · cases hu
theorem RdS.take (h : RdS R sz Pb w v xs) {m : Nat} (hm : m ≤ xs.length) {a : Option Addr} {l cap : Nat} (hv : v = .slice a l cap) : RdS R sz Pb w (.slice a m cap) (xs.take m) := by
  rcases h with ⟨rfl, rfl⟩ | ⟨a', cap', rfl, rfl, hc⟩ | ⟨b, off, cap', cur, e, fr, rfl, hb, hh, h1, h2, h3, h4⟩
  · cases hv; simp at hm; subst hm; exact .inl ⟨rfl, by simp⟩
  · cases hv; simp at hm; subst hm; exact .inr (.inl ⟨_, _, rfl, by simp, hc⟩)
  · cases hv
    have hl : (xs.take m).length = m := by simp; omega
    refine .inr <| .inr ⟨b, off, _, cur, e, fr, by rw [hl], hb, hh, by omega, h2, ?_, fun i x hx => h4 i x ?_⟩
    · rw [hl]; have := Nat.mul_le_mul_right sz hm; omega
    · rw [List.getElem?_take] at hx; split at hx
      · exact hx
      · cases hx
theorem RdS.drop (h : RdS R sz Pb w v xs) {m : Nat} (hm : m ≤ xs.length) {a : Addr} {l cap : Nat} (hv : v = .slice (some a) l cap) (p : Addr) (hp : p = a.add (m * sz) ∨ m = cap ∧ p = a) : RdS R sz Pb w (.slice (some p) (l - m) (cap - m)) (xs.drop m) := by
  rcases h with ⟨rfl, rfl⟩ | ⟨a', cap', rfl, rfl, hc⟩ | ⟨b, off, cap', cur, e, fr, rfl, hb, hh, h1, h2, h3, h4⟩
  · cases hv
  · cases hv
    simp at hm
    subst hm
    exact .inr (.inl ⟨p, cap - 0, by simp, by simp, by omega⟩)
  · cases hv
    have e1 : xs.length * sz = m * sz + (xs.length - m) * sz := by rw [← Nat.add_mul]; congr 1; omega
    rcases hp with rfl | ⟨hmc, rfl⟩
    · rw [addr_add]
      refine .inr <| .inr ⟨b, off + m * sz, cap - m, cur, e, fr, by simp, hb, hh, by simp; omega, by omega, by simp only [List.length_drop]; omega, fun i x hx => ?_⟩
      rw [List.getElem?_drop] at hx
      have := h4 (m + i) x hx
      rw [Nat.add_mul] at this
      rwa [Nat.add_assoc]
    · have hml : m = xs.length := by omega
      have hd : xs.drop m = [] := by rw [hml]; simp
      rw [hd]
      refine .inr <| .inr ⟨b, off, cap - m, cur, e, fr, by simp [hml], hb, hh, by simp, by omega, by simp; omega, fun i x hx => by simp at hx⟩
end

/-! ### Types -/
def isAggD : TypeDesc → Bool | .struct _ | .array _ _ => true | _ => false
class ElT (P : Program) (e : TypeId) (sz bytes : outParam Nat) (agg : outParam Bool) (z : outParam Value) : Prop where
  inf : ∃ i, P.info? e = some i ∧ i.size = sz ∧ i.bytes = bytes ∧ i.zero = some z
  hz : z.cells.size = sz
  und : ∃ u, P.underlying e = some u ∧ isAggD u = agg
/-- The i-th field of a struct: where it lies, its type. -/
class Fld (P : Program) (t : TypeId) (i : Nat) (off : outParam Nat) (ty : outParam TypeId) : Prop where
  ex : ∃ fs f, P.underlying t = some (.struct fs) ∧ fs[i]? = some f ∧ f.offset = off ∧ f.type = ty
theorem ElT.mk' {P : Program} {e : TypeId} {sz bytes : Nat} {agg : Bool} {z : Value} (h : (P.info? e).map (fun i => (i.zero, i.size, i.bytes)) = some (some z, sz, bytes)) (hz : z.cells.size = sz) (hu : (P.underlying e).map isAggD = some agg) : ElT P e sz bytes agg z := by
  cases hi : P.info? e with
  | none => rw [hi] at h; cases h
  | some i =>
    rw [hi] at h
    simp only [Option.map_some, Option.some.injEq, Prod.mk.injEq] at h
    cases hd : P.underlying e with
    | none => rw [hd] at hu; cases hu
    | some u =>
      rw [hd] at hu
      simp only [Option.map_some, Option.some.injEq] at hu
      exact ⟨⟨i, hi, h.2.1, h.2.2, h.1⟩, hz, u, hd, hu⟩
theorem ElT.isAgg {P : Program} {e : TypeId} {sz bytes : Nat} {agg : Bool} {z : Value} (h : ElT P e sz bytes agg z) (w : World) : (isAgg e).run P w = .ok agg w := by
  obtain ⟨u, hu, ha⟩ := h.und
  unfold Go.isAgg
  simp only [Sem.run_bind, run_underlying hu, Result.andThen_ok]
  cases u <;> simp_all [isAggD]
theorem ElT.sizeOf {P : Program} {e : TypeId} {sz bytes : Nat} {agg : Bool} {z : Value} (h : ElT P e sz bytes agg z) (w : World) : (sizeOf e).run P w = .ok sz w := by
  obtain ⟨i, hi, hs, _, _⟩ := h.inf
  simp [Go.sizeOf, typeInfo, hi, hs]
theorem ElT.zeroValue {P : Program} {e : TypeId} {sz bytes : Nat} {agg : Bool} {z : Value} (h : ElT P e sz bytes agg z) (w : World) : (zeroValue e).run P w = .ok z w := by
  obtain ⟨i, hi, _, _, hz⟩ := h.inf
  simp [Go.zeroValue, typeInfo, hi, hz]

section
variable {P : Program} {n : Nat} {ds : List Deferred} {Q : Po} {F : Fr} {w w' : World} {ops rest : List Oper} {d d1 d2 : Nat} {ty ty1 ty2 : TypeId} {pos pos1 pos2 : String} {aft aft1 aft2 : Array Edge}

/-! ### Lengths, indexes, loads -/
theorem run_lenS {t ty e : TypeId} {a : Option Addr} {l cap : Nat} (ht : P.underlying t = some (.slice e)) : (Builtin.len_ #[t] ty #[.slice a l cap]).run P w = .ok (vi l) w := by
  simp [Builtin.len_, run_underlying ht, goInt]
theorem run_lenStr {t ty : TypeId} {l : List UInt8} (ht : P.underlying t = some .string) : (Builtin.len_ #[t] ty #[vs l]).run P w = .ok (vi l.length) w := by
  simp [Builtin.len_, run_underlying ht, goInt, ← ByteArray.size_data]
theorem Wl.lenS {x : Operand} {t e : TypeId} {a : Option Addr} {l cap : Nat} [ht : Und P t (.slice e)] (hx : ev n F x = .slice a l cap)
    (c : Wl P n ds Q ops rest (upd F d (vi l)) w) : Wl P n ds Q ops (⟨some d, .call { callee := .builtin .len, args := #[x], argTypes := #[t] }, ty, pos, aft, none⟩ :: rest) F w :=
  Wl.val (by simp only [execOp, resolve, Sem.run_bind, Sem.run_pure, Result.andThen_ok, invoke, builtin, List.map_toArray, List.map_cons, List.map_nil, hx, run_lenS ht.h]) c
theorem Wl.lenR {α : Type} {R : Rel α} {sz : Nat} {Pb : Nat → Prop} {xs : List α} {x : Operand} {t e : TypeId} {v : Value} [ht : Und P t (.slice e)] (h : RdS R sz Pb w v xs) (hx : ev n F x = v)
    (c : Wl P n ds Q ops rest (upd F d (vi xs.length)) w) : Wl P n ds Q ops (⟨some d, .call { callee := .builtin .len, args := #[x], argTypes := #[t] }, ty, pos, aft, none⟩ :: rest) F w := by
  obtain ⟨a, cap, rfl, _⟩ := h.form
  exact Wl.lenS hx c
theorem Wl.lenStr {x : Operand} {t : TypeId} {l : List UInt8} [ht : Und P t .string] (hx : ev n F x = vs l)
    (c : Wl P n ds Q ops rest (upd F d (vi l.length)) w) : Wl P n ds Q ops (⟨some d, .call { callee := .builtin .len, args := #[x], argTypes := #[t] }, ty, pos, aft, none⟩ :: rest) F w :=
  Wl.val (by simp only [execOp, resolve, Sem.run_bind, Sem.run_pure, Result.andThen_ok, invoke, builtin, List.map_toArray, List.map_cons, List.map_nil, hx, run_lenStr ht.h]) c

theorem run_idxStr {t : TypeId} {l : List UInt8} {k : IntKind} {j : Int} {c : UInt8} (ht : P.underlying t = some .string) (h0 : 0 ≤ j) (hj : l[j.toNat]? = some c) : (Instr.index t (vs l) (.int k j)).run P w = .ok (.int .u8 c.toNat) w := by
  have hlt : j.toNat < l.length := (List.getElem?_eq_some_iff.1 hj).1
  have hg : (⟨l.toArray⟩ : ByteArray)[j.toNat]? = some c := by
    rw [ByteArray.getElem?_lt' _ _ (by simpa [ByteArray.size] using hlt)]
    have := (List.getElem?_eq_some_iff.1 hj).2
    simp only [Option.some.injEq]
    rw [← this]; rfl
  simp only [Instr.index, asIntOf, Sem.run_bind, Sem.run_pure, Result.andThen_ok, run_underlying ht]
  rw [if_pos h0, hg]; rfl
/-- s[j] of a string. -/
theorem Wl.idxStr {x i : Operand} {t : TypeId} {l : List UInt8} {k : IntKind} {j : Int} {b : UInt8} [ht : Und P t .string] (hx : ev n F x = vs l) (hi : ev n F i = .int k j) (h0 : 0 ≤ j) (hj : l[j.toNat]? = some b)
    (c : Wl P n ds Q ops rest (upd F d (.int .u8 b.toNat)) w) : Wl P n ds Q ops (⟨some d, .index t x i, ty, pos, aft, none⟩ :: rest) F w :=
  Wl.val (by simp only [execOp, hx, hi, Sem.run_bind, run_idxStr ht.h h0 hj, Result.andThen_ok, Sem.run_pure]) c
theorem run_indexAt {t e : TypeId} {sz bytes : Nat} {agg : Bool} {z : Value} {a : Addr} {l cap : Nat} {k : IntKind} {j : Int} (ht : P.underlying t = some (.slice e)) (he : ElT P e sz bytes agg z) (h0 : 0 ≤ j) (h1 : j < l) :
    (Instr.indexAt t (.slice (some a) l cap) (.int k j)).run P w = .ok (.pointer (some (a.add (j.toNat * sz)))) w := by
  simp [Instr.indexAt, asIntOf, run_underlying ht, h0, h1, he.sizeOf]
theorem run_load1 {e : TypeId} {bytes : Nat} {z : Value} {a : Addr} {u : Value} (he : ElT P e 1 bytes false z) (h : w.cell? a = some u) :
    (Instr.loadAt e (.pointer (some a))).run P w = .ok u w := by
  simp [Instr.loadAt, Instr.sureAddr, loadVar, he.isAgg, h]
theorem run_loadA {e : TypeId} {sz bytes : Nat} {z : Value} {b o : Nat} {cs : List Value} (he : ElT P e sz bytes true z) (hl : cs.length = sz) (h : ∀ j u, cs[j]? = some u → w.cell? ⟨b, o + j, none⟩ = some u) :
    (Instr.loadAt e (.pointer (some ⟨b, o, none⟩))).run P w = .ok (.agg cs.toArray) w := by
  have := run_loadCells_list (P := P) w ⟨b, o, none⟩ cs (fun j u hu => by rw [addr_add]; exact h j u hu)
  simp [Instr.loadAt, Instr.sureAddr, loadVar, he.isAgg, he.sizeOf, ← hl, this]
/-- xs[j], an element of one cell. -/
theorem Wl.idxLoad1 {α : Type} {R : Rel α} {Pb : Nat → Prop} {xs : List α} {x i : Operand} {t e e' : TypeId} {bytes : Nat} {z v : Value} {k : IntKind} {j : Int} {y : α}
    [ht : Und P t (.slice e)] [he : ElT P e 1 bytes false z] (h : RdS R 1 Pb w v xs) (hx : ev n F x = v) (hi : ev n F i = .int k j) (h0 : 0 ≤ j) (hy : xs[j.toNat]? = some y) (hd : Nat.blt d1 n = true) (hee : e' = e)
    (c : ∀ u p, R Pb w y [u] → Wl P n ds Q ops rest (upd (upd F d1 p) d2 u) w) :
    Wl P n ds Q ops (⟨some d1, .indexAddr t x i, ty1, pos1, aft1, none⟩ :: ⟨some d2, .load e' (.tmp d1), ty2, pos2, aft2, none⟩ :: rest) F w := by
  obtain ⟨b, off, cap, rfl, hlt, cs, hl, hR, hc⟩ := h.cells hy
  subst hee
  match cs, hl with
  | [u], _ =>
    refine Wl.val (w' := w) (v := .pointer (some ((⟨b, off, none⟩ : Addr).add (j.toNat * 1)))) ?_ (Wl.val (w' := w) (v := u) ?_ (c u _ hR))
    · simp only [execOp, hx, hi, Sem.run_bind, run_indexAt ht.h he h0 (by omega : j < xs.length), Result.andThen_ok, Sem.run_pure]
    · have := hc 0 u rfl
      simp only [execOp, ev, hd, upd_eq, if_pos, Sem.run_bind]
      rw [addr_add, run_load1 he (by simpa using this)]; rfl
/-- The same, plain. -/
theorem Wl.idxLoadV {α : Type} {f : α → Value} {Pb : Nat → Prop} {xs : List α} {x i : Operand} {t e e' : TypeId} {bytes : Nat} {z v : Value} {k : IntKind} {j : Int} {y : α}
    [ht : Und P t (.slice e)] [he : ElT P e 1 bytes false z] (h : RdS (one f) 1 Pb w v xs) (hx : ev n F x = v) (hi : ev n F i = .int k j) (h0 : 0 ≤ j) (hy : xs[j.toNat]? = some y) (hd : Nat.blt d1 n = true) (hee : e' = e)
    (c : ∀ p, Wl P n ds Q ops rest (upd (upd F d1 p) d2 (f y)) w) :
    Wl P n ds Q ops (⟨some d1, .indexAddr t x i, ty1, pos1, aft1, none⟩ :: ⟨some d2, .load e' (.tmp d1), ty2, pos2, aft2, none⟩ :: rest) F w :=
  Wl.idxLoad1 h hx hi h0 hy hd hee fun u p hu => by cases hu; exact c p
/-- xs[j], a struct. -/
theorem Wl.idxLoadA {α : Type} {R : Rel α} {sz : Nat} {Pb : Nat → Prop} {xs : List α} {x i : Operand} {t e e' : TypeId} {bytes : Nat} {z v : Value} {k : IntKind} {j : Int} {y : α}
    [ht : Und P t (.slice e)] [he : ElT P e sz bytes true z] (h : RdS R sz Pb w v xs) (hx : ev n F x = v) (hi : ev n F i = .int k j) (h0 : 0 ≤ j) (hy : xs[j.toNat]? = some y) (hd : Nat.blt d1 n = true) (hee : e' = e)
    (c : ∀ cs p, cs.length = sz → R Pb w y cs → Wl P n ds Q ops rest (upd (upd F d1 p) d2 (.agg cs.toArray)) w) :
    Wl P n ds Q ops (⟨some d1, .indexAddr t x i, ty1, pos1, aft1, none⟩ :: ⟨some d2, .load e' (.tmp d1), ty2, pos2, aft2, none⟩ :: rest) F w := by
  obtain ⟨b, off, cap, rfl, hlt, cs, hl, hR, hc⟩ := h.cells hy
  subst hee
  refine Wl.val (w' := w) (v := .pointer (some ((⟨b, off, none⟩ : Addr).add (j.toNat * sz)))) ?_ (Wl.val (w' := w) (v := .agg cs.toArray) ?_ (c cs _ hl hR))
  · simp only [execOp, hx, hi, Sem.run_bind, run_indexAt ht.h he h0 (by omega : j < xs.length), Result.andThen_ok, Sem.run_pure]
  · simp only [execOp, ev, hd, upd_eq, if_pos, Sem.run_bind]
    rw [addr_add, run_loadA he hl (by intro j u hu; exact hc j u hu)]; rfl

/-! ### New slices: append, make -/
theorem World.heap_old (w : World) (o : Obj) {k : Nat} (hk : k < w.heap.size) : (w.alloc o).heap[k]? = w.heap[k]? := by
  show (w.heap.push o)[k]? = _
  rw [Array.getElem?_push, if_neg (by omega)]
theorem foldl_fill (off : Nat) : ∀ (l : List Value) (k : Nat) (pre post zs : List Value), zs.length = l.length → pre.length = off + k →
    (l.zipIdx k).foldl (fun (cs : Array Value) (c : Value × Nat) => cs.setIfInBounds (off + c.2) c.1) (pre ++ zs ++ post).toArray = (pre ++ l ++ post).toArray
  | [], _, _, _, zs, h, _ => by cases zs <;> simp_all
  | x :: l, k, pre, post, zs, h, hp => by
    match zs, h with
    | z :: zs, h =>
      simp only [List.zipIdx_cons, List.foldl_cons]
      have e : (pre ++ (z :: zs) ++ post).toArray.setIfInBounds (off + k) x = ((pre ++ [x]) ++ zs ++ post).toArray := by
        rw [← hp]; simp [List.set_append]
      rw [e, foldl_fill off l (k + 1) (pre ++ [x]) post zs (by simpa using h) (by simp [hp]; omega)]
      simp
theorem fill_one {cells : Array Value} {v : Value} (hv : v.cells.size = cells.size) : Instr.fill (fun i => some (i * cells.size, cells.size)) cells [(0, v)] = some v.cells := by
  simp only [Instr.fill, Nat.zero_mul, Nat.zero_add, hv]
  rw [if_neg (by simp)]
  congr 1
  have := foldl_fill 0 v.cells.toList 0 [] [] cells.toList (by simpa using hv.symm) rfl
  simp only [List.nil_append, List.append_nil, Array.toArray_toList, Nat.zero_add] at this
  rw [← Array.foldl_toList, Array.toList_zipIdx]
  simpa using this
theorem run_buildSlice1 {t e : TypeId} {sz bytes : Nat} {agg : Bool} {z v : Value} (ht : P.underlying t = some (.slice e)) (he : ElT P e sz bytes agg z) (hv : v.cells.size = sz) (hs : 0 < sz) (hs2 : sz ≤ 16777216) :
    (Instr.buildSlice t 1 #[(0, v)]).run P w = .ok (.slice (some ⟨w.heap.size, 0, none⟩) 1 1) (w.alloc (.cells v.cells e)) := by
  have hne : ¬ sz = 0 := by omega
  have hz := he.hz
  have e2 : (Array.range sz).map (fun i => z.cells[i % z.cells.size]!) = z.cells := by
    apply Array.ext
    · simp [hz]
    · intro i h1 h2
      have h3 : i < z.cells.size := h2
      simp [Nat.mod_eq_of_lt h3, h3]
  have e3 := fill_one (cells := z.cells) (v := v) (by rw [hv, hz])
  rw [hz] at e2 e3
  simp only [Instr.buildSlice, Sem.run_bind, run_underlying ht, Result.andThen_ok, he.sizeOf, Nat.one_mul]
  rw [if_neg (by omega), if_neg hne]
  simp only [Sem.run_bind, Result.andThen_ok, he.zeroValue, Sem.run_pure, hz, e2, e3, newRow, run_newObj]
  rfl
/-- 'string(b)'. -/
theorem run_bytes_str {t t' e : TypeId} {Pb : Nat → Prop} {v : Value} {l : List UInt8} (ht : P.underlying t = some (.slice e)) (he : P.underlying e = some (.int .u8)) (ht' : P.underlying t' = some .string)
    (h : RdS (one fun b : UInt8 => .int .u8 b.toNat) 1 Pb w v l) : (convert t t' v).run P w = .ok (vs l) w := by
  rcases h with ⟨rfl, rfl⟩ | ⟨a, cap, rfl, rfl, hc⟩ | ⟨b, off, cap, cur, e', fr, rfl, hb, hh, h1, h2, h3, h4⟩
  · rw [run_convert_bytes_nil w t e ht he 0 0 t' ht']; rfl
  · rw [run_convert_bytes_string w t t' e _ 0 cap ht he ht', run_bytesToString w a 0 cap [] (by simp [loadCells, loadCellsFrom])]; rfl
  · have := run_convert_bytes_arg (P := P) w t e ht he b off l.length cap (l.map fun b => (b.toNat : Int)) (by simp) (fun i hi => by
      have := h4 i l[i] (List.getElem?_eq_getElem hi)
      simp only [one, Nat.mul_one] at this
      have e2 := congrArg (fun q => q[0]?) this
      simp only [List.getElem?_take, List.getElem?_drop] at e2
      simp only [World.cell?, hh]
      simpa [List.getElem?_eq_getElem hi] using e2) t' ht'
    rw [this]
    congr 2
    simp only [strOfNums, List.map_map]
    congr 2
    conv => rhs; rw [← List.map_id l]
    apply List.map_congr_left
    intro a _
    simp
theorem Wl.bytesStr {x : Operand} {t t' e : TypeId} {Pb : Nat → Prop} {v : Value} {l : List UInt8} [ht : Und P t (.slice e)] [he : Und P e (.int .u8)] [ht' : Und P t' .string]
    (h : RdS (one fun b : UInt8 => .int .u8 b.toNat) 1 Pb w v l) (hx : ev n F x = v)
    (c : Wl P n ds Q ops rest (upd F d (vs l)) w) : Wl P n ds Q ops (⟨some d, .convert t t' x, ty, pos, aft, none⟩ :: rest) F w :=
  Wl.val (by simp only [execOp, hx, Sem.run_bind, run_bytes_str ht.h he.h ht'.h h, Result.andThen_ok, Sem.run_pure]) c
end

end Go.Proofs.YtpnpllghabbhlaaGreatDoor.Wk

namespace Go.Proofs.YtpnpllghabbhlaaGreatDoor.Wk
open Go Go.RowKit

/-! ### What a step turns -/
/-- From w to w' blocks may have come; of the old ones only those with M may have turned. -/
structure Chg (M : Nat → Prop) (w w' : World) : Prop where
  os : w'.os = w.os
  tape : w'.tape = w.tape
  output : w'.output = w.output
  size : w.heap.size ≤ w'.heap.size
  block : ∀ k, k < w.heap.size → ¬ M k → w'.heap[k]? = w.heap[k]?
/-- Nothing old has turned. -/
abbrev New (w w' : World) : Prop := Chg (fun _ => False) w w'
section
variable {M M' : Nat → Prop} {w w' w'' : World}
theorem Chg.refl (M : Nat → Prop) (w : World) : Chg M w w := ⟨rfl, rfl, rfl, Nat.le_refl _, fun _ _ _ => rfl⟩
theorem Chg.trans (h : Chg M w w') (h' : Chg M' w' w'') (hM : ∀ k, k < w.heap.size → M' k → M k) : Chg M w w'' :=
  ⟨h'.os.trans h.os, h'.tape.trans h.tape, h'.output.trans h.output, Nat.le_trans h.size h'.size, fun k hk hn =>
    (h'.block k (Nat.lt_of_lt_of_le hk h.size) fun e => hn (hM k hk e)).trans (h.block k hk hn)⟩
theorem Chg.mono (h : Chg M w w') (hM : ∀ k, k < w.heap.size → M k → M' k) : Chg M' w w' :=
  ⟨h.os, h.tape, h.output, h.size, fun k hk hn => h.block k hk fun e => hn (hM k hk e)⟩
theorem New.trans (h : New w w') (h' : New w' w'') : New w w'' := Chg.trans h h' fun _ _ e => e
theorem New.any (h : New w w') : Chg M w w' := h.mono fun _ _ e => e.elim
theorem Chg.alloc (M : Nat → Prop) (w : World) (o : Obj) : Chg M w (w.alloc o) := ⟨rfl, rfl, rfl, by simp, fun k hk _ => World.heap_old w o hk⟩
theorem Chg.drew (M : Nat → Prop) (w : World) : Chg M w w.drew := ⟨rfl, rfl, rfl, Nat.le_refl _, fun _ _ _ => rfl⟩
theorem Chg.below {B : Nat} (h : Chg M w w') (hM : ∀ k, k < B → ¬ M k) (hB : B ≤ w.heap.size) : Below B w w' := ⟨h.os, h.tape, h.output, h.size, fun k hk => h.block k (by omega) (hM k hk)⟩
theorem New.below (h : New w w') : Below w.heap.size w w' := Chg.below h (fun _ _ e => e) (Nat.le_refl _)
theorem Chg.ofBelow {B : Nat} (h : Below B w w') : Chg (fun b => B ≤ b) w w' := ⟨h.os, h.tape, h.output, h.size, fun k _ hn => h.block k (by omega)⟩
theorem New.ofBelow (h : Below w.heap.size w w') : New w w' := ⟨h.os, h.tape, h.output, h.size, fun k hk _ => h.block k hk⟩
theorem Chg.setRow {g : Nat} {cs : Array Value} (hg : M g) : Chg M w (w.setRow g cs) := ⟨rfl, rfl, rfl, by simp, fun k _ hn => setRow_other w g k cs fun e => hn (e ▸ hg)⟩
theorem Chg.keep {Pb : Nat → Prop} (h : Chg M w w') (hd : ∀ b, b < w.heap.size → Pb b → ¬ M b) : Keep Pb w w' := fun b hb hlt => h.block b hlt (hd b hlt hb)
theorem New.keep {Pb : Nat → Prop} (h : New w w') : Keep Pb w w' := fun b _ hlt => h.block b hlt fun e => e
end

/-! ### Rows of the call's own -/
def OwnC (Pb : Nat → Prop) (w : World) (e : TypeId) (sz : Nat) (v : Value) (m : Nat) (cs : List Value) : Prop :=
  cs.length = m * sz ∧ ((v = .slice none 0 0 ∧ m = 0) ∨
    ∃ g cap cur, v = .slice (some ⟨g, 0, none⟩) m cap ∧ Pb g ∧ w.heap[g]? = some (.cells cur e (0, 0)) ∧ m ≤ cap ∧ cap ≤ maxLen ∧ cur.size = cap * sz ∧ cur.toList.take (m * sz) = cs)
structure GoodR {α : Type} (R : Rel α) (sz : Nat) : Prop where
  st : Stable R
  mo : Mono R
  oc : ∀ Pb w x cs, R Pb w x cs → cs.length = sz → ∀ c ∈ cs, c.oneCell' = true
theorem good_one {α : Type} (f : α → Value) (h : ∀ x, (f x).oneCell' = true) : GoodR (one f) 1 := ⟨stable_one f, mono_one f, fun _ _ x cs e _ c hc => by cases e; simp at hc; rw [hc]; exact h x⟩
/-- A slice of the call's own that reads as xs: its block is in Pb; what the elements reach is in Pe, and is not that block. -/
def OwnS {α : Type} (R : Rel α) (e : TypeId) (sz : Nat) (Pb Pe : Nat → Prop) (w : World) (v : Value) (xs : List α) : Prop :=
  ∃ cs, OwnC Pb w e sz v xs.length cs ∧ ∀ (i : Nat) (x : α), xs[i]? = some x → R (fun b => Pe b ∧ v.ownBlock ≠ some b) w x ((cs.drop (i * sz)).take sz)
section
variable {α : Type} {R : Rel α} {e : TypeId} {sz : Nat} {Pb Pe Pb' Pe' M : Nat → Prop} {w w' : World} {v : Value} {xs : List α}
theorem OwnC.form {m : Nat} {cs : List Value} (h : OwnC Pb w e sz v m cs) : ∃ a cap, v = .slice a m cap ∧ m ≤ cap ∧ cap ≤ maxLen := by
  rcases h.2 with ⟨rfl, rfl⟩ | ⟨g, cap, cur, rfl, _, _, h1, h2, _⟩
  · exact ⟨none, 0, rfl, Nat.le_refl _, by unfold maxLen; omega⟩
  · exact ⟨_, cap, rfl, h1, h2⟩
theorem OwnC.lt {m : Nat} {cs : List Value} (h : OwnC Pb w e sz v m cs) {k : Nat} (hk : v.ownBlock = some k) : Pb k ∧ k < w.heap.size := by
  rcases h.2 with ⟨rfl, rfl⟩ | ⟨g, cap, cur, rfl, hb, hg, _⟩
  · cases hk
  · simp only [Value.ownBlock, Option.some.injEq] at hk
    subst hk
    exact ⟨hb, heap_lt hg⟩
theorem OwnC.keep {m : Nat} {cs : List Value} (h : OwnC Pb w e sz v m cs) (hk : Keep Pb w w') : OwnC Pb w' e sz v m cs := by
  refine ⟨h.1, ?_⟩
  rcases h.2 with h | ⟨g, cap, cur, hv, hb, hg, r⟩
  · exact .inl h
  · exact .inr ⟨g, cap, cur, hv, hb, (hk g hb (heap_lt hg)).trans hg, r⟩
theorem OwnC.mono {m : Nat} {cs : List Value} (h : OwnC Pb w e sz v m cs) (hP : ∀ b, b < w.heap.size → Pb b → Pb' b) : OwnC Pb' w e sz v m cs := by
  refine ⟨h.1, ?_⟩
  rcases h.2 with h | ⟨g, cap, cur, hv, hb, hg, r⟩
  · exact .inl h
  · exact .inr ⟨g, cap, cur, hv, hP g (heap_lt hg) hb, hg, r⟩
theorem OwnS.nil : OwnS R e sz Pb Pe w (.slice none 0 0) [] := ⟨[], ⟨by simp, .inl ⟨rfl, rfl⟩⟩, fun i x hx => by simp at hx⟩
theorem OwnS.form (h : OwnS R e sz Pb Pe w v xs) : ∃ a cap, v = .slice a xs.length cap ∧ xs.length ≤ cap ∧ cap ≤ maxLen := by
  obtain ⟨cs, h, _⟩ := h; exact h.form
theorem OwnS.lt (h : OwnS R e sz Pb Pe w v xs) {k : Nat} (hk : v.ownBlock = some k) : Pb k ∧ k < w.heap.size := by
  obtain ⟨cs, h, _⟩ := h; exact h.lt hk
theorem OwnS.keep (hR : Stable R) (h : OwnS R e sz Pb Pe w v xs) (hk : Keep Pb w w') (hk' : Keep Pe w w') : OwnS R e sz Pb Pe w' v xs := by
  obtain ⟨cs, h, he⟩ := h
  exact ⟨cs, h.keep hk, fun i x hx => hR _ _ _ _ _ (fun b hb => hk' b hb.1) (he i x hx)⟩
theorem OwnS.mono (hR : Mono R) (h : OwnS R e sz Pb Pe w v xs) (hP : ∀ b, b < w.heap.size → Pb b → Pb' b) (hP' : ∀ b, b < w.heap.size → Pe b → Pe' b) : OwnS R e sz Pb' Pe' w v xs := by
  obtain ⟨cs, h, he⟩ := h
  exact ⟨cs, h.mono hP, fun i x hx => hR _ _ _ _ _ (fun b hb hb' => ⟨hP' b hb hb'.1, hb'.2⟩) (he i x hx)⟩
theorem OwnS.keepP {f : α → Value} (h : OwnS (one f) e sz Pb Pe w v xs) (hk : Keep Pb w w') : OwnS (one f) e sz Pb Pe w' v xs := by
  obtain ⟨cs, h, he⟩ := h
  exact ⟨cs, h.keep hk, he⟩
/-- What a call owns can be read. -/
theorem OwnS.rd (hR : Mono R) (h : OwnS R e sz Pb Pe w v xs) : RdS R sz (fun b => Pb b ∨ Pe b) w v xs := by
  obtain ⟨cs, ⟨hl, h⟩, he⟩ := h
  rcases h with ⟨rfl, hm⟩ | ⟨g, cap, cur, rfl, hb, hg, h1, h2, h3, h4⟩
  · exact .inl ⟨rfl, List.eq_nil_of_length_eq_zero hm⟩
  · have hle : xs.length * sz ≤ cap * sz := Nat.mul_le_mul_right _ h1
    refine .inr <| .inr ⟨g, 0, cap, cur, e, _, rfl, .inl hb, hg, h1, h2, by omega, fun i x hx => ?_⟩
    have := hR _ (fun b => Pb b ∨ Pe b) _ _ _ (fun b _ hb => Or.inr hb.1) (he i x hx)
    rw [← h4] at this
    have hi : i < xs.length := (List.getElem?_eq_some_iff.1 hx).1
    have hi2 : (i + 1) * sz ≤ xs.length * sz := Nat.mul_le_mul_right _ hi
    rw [Nat.add_mul] at hi2
    rw [List.drop_take, List.take_take, Nat.min_eq_left (by omega)] at this
    rw [Nat.zero_add]
    exact this
end

section
variable {P : Program} {w : World}
theorem run_append_c (t ty e : TypeId) {sz bytes : Nat} {agg : Bool} {z : Value} (ht : P.underlying t = some (.slice e)) (he : ElT P e sz bytes agg z) (hsz : 0 < sz)
    {Pb : Nat → Prop} {v : Value} {m : Nat} {cs : List Value} (hown : OwnC Pb w e sz v m cs)
    (a : Addr) (k c : Nat) (news : List Value) (hl : news.length = k * sz) (hnews : ∀ j u, news[j]? = some u → w.cell? (a.add j) = some u) (h1 : ∀ u ∈ news, u.oneCell' = true)
    (h63 : m + k ≤ maxLen) (hby : (m + k) * bytes ≤ 140737488355328) :
    ∃ v' w', (Builtin.append_ #[t, t] ty #[v, .slice (some a) k c]).run P w = .ok v' w' ∧ OwnC (fun b => Pb b ∨ w.heap.size ≤ b) w' e sz v' (m + k) (cs ++ news) ∧ Chg (fun b => v.ownBlock = some b) w w' ∧
      (v'.ownBlock = v.ownBlock ∨ ∀ b, v'.ownBlock = some b → w.heap.size ≤ b) := by
  obtain ⟨i, hi, hsz', hby', hz'⟩ := he.inf
  have hz := he.hz
  subst hsz'
  subst hby'
  have hsmall : m + k ≤ 9223372036854775807 := by simp only [maxLen] at h63; omega
  have hlen : (cs ++ news).length = (m + k) * i.size := by rw [List.length_append, hown.1, hl, Nat.add_mul]
  have grown : ∀ (old : Nat), old < m + k →
      OwnC (fun b => Pb b ∨ w.heap.size ≤ b) (w.drew.alloc (.cells (cs.toArray ++ news.toArray ++ Builtin.zeroCells z.cells (grownCap w (m + k) old e - (m + k))) e)) e i.size
        (.slice (some ⟨w.heap.size, 0, none⟩) (m + k) (grownCap w (m + k) old e)) (m + k) (cs ++ news) := by
    intro old ho
    have hge := grownCap_ge w (m + k) old e
    have hcm : grownCap w (m + k) old e ≤ maxLen := grownCap_le_maxLen w (m + k) old e h63
    refine ⟨hlen, .inr ⟨w.heap.size, _, _, rfl, .inr (Nat.le_refl _), heap_alloc_new w.drew _, hge, hcm, ?_, ?_⟩⟩
    · simp only [Array.size_append, List.size_toArray, size_zeroCells, hz, hown.1, hl, ← Nat.add_mul]
      congr 1
      omega
    · simp only [Array.toList_append, List.append_assoc]
      rw [← List.append_assoc, ← hlen]
      exact List.take_left
  have chg : ∀ M o, Chg M w (w.drew.alloc o) := fun M o => ⟨rfl, rfl, rfl, by simp, fun k hk _ => World.heap_old w.drew o hk⟩
  rcases hown.2 with ⟨rfl, rfl⟩ | ⟨g, cap, cur, rfl, hbg, hg, hnc, hcm, hcs, htake⟩
  · have hx : cs = [] := List.eq_nil_of_length_eq_zero (by simpa using hown.1)
    subst hx
    by_cases hm : k = 0
    · subst hm
      have hn : news = [] := List.eq_nil_of_length_eq_zero (by simpa using hl)
      subst hn
      refine ⟨.slice none 0 0, w, ?_, ⟨by simp, .inl ⟨rfl, rfl⟩⟩, Chg.refl _ _, .inl rfl⟩
      simp [Builtin.append_, run_underlying ht, sizeOf, typeInfo, hi, Builtin.lenOf, Builtin.firstCells, loadCells, loadCellsFrom]
    · have hr := run_append_nil (P := P) w t ty e i z ht hi hz' a k c news hl hnews (by omega) (by omega) (by have hb := hby; simp only [Nat.zero_add] at hb; omega)
      have hgr := grown 0 (by omega)
      simp only [Nat.zero_add, List.nil_append, Array.empty_append] at hgr ⊢
      exact ⟨_, _, hr, hgr, chg _ _, .inr fun b hb => by simp only [Value.ownBlock, Option.some.injEq] at hb; omega⟩
  · by_cases hroom : m + k ≤ cap
    · have hfit : m * i.size + news.length ≤ cur.size := by rw [hl, hcs, ← Nat.add_mul]; exact Nat.mul_le_mul_right _ hroom
      have hr := run_append_room (P := P) w t ty e i ht hi g m cap cur hg a k c news hl hnews h1 hroom hfit
      refine ⟨_, _, hr, ⟨hlen, .inr ⟨g, cap, _, rfl, .inl hbg, setRow_heap w g cur _ e _ hg, hroom, hcm, ?_, ?_⟩⟩, Chg.setRow rfl, .inl rfl⟩
      · simp only [List.size_toArray, List.length_append, List.length_take, List.length_drop, Array.length_toList]
        omega
      · rw [htake, ← hlen]
        exact List.take_left
    · have holds : ∀ j u, cs[j]? = some u → w.cell? ((⟨g, 0, none⟩ : Addr).add j) = some u := by
        intro j u hu
        rw [addr_add, Nat.zero_add]
        simp only [World.cell?, hg]
        rw [← htake, List.getElem?_take] at hu
        split at hu
        · simpa using hu
        · cases hu
      have hr := run_append_grow (P := P) w t ty e i z ht hi hz' ⟨g, 0, none⟩ m cap cs hown.1 holds a k c news hl hnews (by omega) (by omega) (growslice_fits (by omega) hby)
      exact ⟨_, _, hr, grown cap (by omega), chg _ _, .inr fun b hb => by simp only [Value.ownBlock, Option.some.injEq] at hb; omega⟩
theorem run_append_c0 (t ty e : TypeId) {sz bytes : Nat} {agg : Bool} {z : Value} (ht : P.underlying t = some (.slice e)) (he : ElT P e sz bytes agg z)
    {Pb : Nat → Prop} {v : Value} {m : Nat} {cs : List Value} (hown : OwnC Pb w e sz v m cs) :
    (Builtin.append_ #[t, t] ty #[v, .slice none 0 0]).run P w = .ok v w := by
  obtain ⟨i, hi, _, _, _⟩ := he.inf
  rcases hown.2 with ⟨rfl, rfl⟩ | ⟨g, cap, cur, rfl, _, _, hnc, _⟩
  · simp [Builtin.append_, run_underlying ht, sizeOf, typeInfo, hi, Builtin.lenOf, Builtin.firstCells]
  · simp [Builtin.append_, run_underlying ht, sizeOf, typeInfo, hi, Builtin.lenOf, Builtin.firstCells, hnc, storeCells]
end

section
variable {α : Type} {R : Rel α} {Pb Pe : Nat → Prop} {xs : List α}
variable {P : Program} {n : Nat} {ds : List Deferred} {Q : Po} {F : Fr} {w w' : World} {ops rest : List Oper} {d d1 d2 : Nat} {ty ty1 ty2 : TypeId} {pos pos1 pos2 : String} {aft aft1 aft2 : Array Edge}

/-- An element that stays as it is though the row is appended to. -/
theorem elems_append {sz : Nat} {cs news : List Value} {ys : List α} {v v' : Value} (hR : GoodR R sz) (hlc : cs.length = xs.length * sz)
    (he : ∀ (i : Nat) (x : α), xs[i]? = some x → R (fun b => Pe b ∧ v.ownBlock ≠ some b) w x ((cs.drop (i * sz)).take sz))
    (hn : ∀ (i : Nat) (x : α), ys[i]? = some x → R (fun b => Pe b ∧ v.ownBlock ≠ some b) w x ((news.drop (i * sz)).take sz))
    (hc : Chg (fun b => v.ownBlock = some b) w w') (hv : v'.ownBlock = v.ownBlock ∨ ∀ b, v'.ownBlock = some b → w.heap.size ≤ b) :
    ∀ (i : Nat) (x : α), (xs ++ ys)[i]? = some x → R (fun b => Pe b ∧ v'.ownBlock ≠ some b) w' x (((cs ++ news).drop (i * sz)).take sz) := by
  have key : ∀ x l, R (fun b => Pe b ∧ v.ownBlock ≠ some b) w x l → R (fun b => Pe b ∧ v'.ownBlock ≠ some b) w' x l := by
    intro x l h
    have h1 := hR.mo _ (fun b => (Pe b ∧ v'.ownBlock ≠ some b) ∧ v.ownBlock ≠ some b) w x l (fun b hb hP => ⟨⟨hP.1, fun e => by
      rcases hv with e' | h'
      · exact hP.2 (e' ▸ e)
      · have := h' b e; omega⟩, hP.2⟩) h
    have h2 := hR.st _ _ _ _ _ (hc.keep (fun b _ hb => hb.2)) h1
    exact hR.mo _ _ _ _ _ (fun b _ hb => hb.1) h2
  intro i x hx
  rw [List.getElem?_append] at hx
  split at hx
  · rename_i hi
    have hle : (i + 1) * sz ≤ xs.length * sz := Nat.mul_le_mul_right _ hi
    rw [Nat.add_mul] at hle
    have e1 : ((cs ++ news).drop (i * sz)).take sz = (cs.drop (i * sz)).take sz := by
      rw [List.drop_append, List.take_append_of_le_length (by simp; omega)]
    rw [e1]
    exact key _ _ (he i x hx)
  · rename_i hi
    have hi' : xs.length ≤ i := Nat.not_lt.1 hi
    have e1 : ((cs ++ news).drop (i * sz)).take sz = (news.drop ((i - xs.length) * sz)).take sz := by
      have hle : xs.length * sz ≤ i * sz := Nat.mul_le_mul_right _ hi'
      rw [List.drop_append, List.drop_eq_nil_of_le (by omega), List.nil_append, hlc, Nat.sub_mul]
    rw [e1]
    exact key _ _ (hn _ x hx)

/-- 's = append(s, x)'. -/
theorem Wl.append1 {x s : Operand} {t e : TypeId} {sz bytes : Nat} {agg : Bool} {z v u : Value} {y : α} {cs : List Value} (hR : GoodR R sz)
    (hown : OwnS R e sz Pb Pe w v xs) [ht : Und P t (.slice e)] [he : ElT P e sz bytes agg z] (hs : ev n F s = v) (hx : ev n F x = u) (hcs : u.cells.toList = cs) (hl : cs.length = sz) (hy : R (fun b => Pe b ∧ v.ownBlock ≠ some b) w y cs)
    (hsz : 0 < sz) (hsz2 : sz ≤ 16777216) (h63 : xs.length + 1 ≤ maxLen) (hby : (xs.length + 1) * bytes ≤ 140737488355328) (hd : Nat.blt d1 n = true) (hsd : (match s with | .tmp q => Nat.beq q d1 | _ => false) = false)
    (c : ∀ v' w' p, OwnS R e sz (fun b => Pb b ∨ w.heap.size ≤ b) Pe w' v' (xs ++ [y]) → Chg (fun b => v.ownBlock = some b) w w' → (v'.ownBlock = v.ownBlock ∨ ∀ b, v'.ownBlock = some b → w.heap.size ≤ b) → Wl P n ds Q ops rest (upd (upd F d1 p) d2 v') w') :
    Wl P n ds Q ops (⟨some d1, .buildSlice t 1 #[(0, x)], ty1, pos1, aft1, none⟩ :: ⟨some d2, .call { callee := .builtin .append, args := #[s, .tmp d1], argTypes := #[t, t] }, ty2, pos2, aft2, none⟩ :: rest) F w := by
  obtain ⟨ocs, hoc, hoe⟩ := hown
  have h1 : ∀ c ∈ cs, c.oneCell' = true := hR.oc _ _ _ _ hy hl
  have huc : u.cells.size = sz := by rw [← hl, ← hcs]; simp
  have r1 := run_buildSlice1 (P := P) (w := w) ht.h he huc hsz hsz2
  let w1 := w.alloc (.cells u.cells e)
  have hk1 : New w w1 := Chg.alloc _ _ _
  have hnew : ∀ j q, cs[j]? = some q → w1.cell? ((⟨w.heap.size, 0, none⟩ : Addr).add j) = some q := by
    intro j q hq
    rw [addr_add, Nat.zero_add]
    have : w1.heap[w.heap.size]? = some (.cells u.cells e) := heap_alloc_new w _
    simp only [World.cell?, this]
    rw [← hcs] at hq
    simpa using hq
  obtain ⟨v', w', hr, h2, h3, h4⟩ := run_append_c (P := P) (w := w1) t ty2 e ht.h he hsz (hoc.keep hk1.keep) ⟨w.heap.size, 0, none⟩ 1 1 cs (by omega) hnew h1 h63 hby
  have hsize1 : w1.heap.size = w.heap.size + 1 := by simp [w1]
  have hel := elems_append (w := w1) (w' := w') (ys := [y]) (news := cs) hR hoc.1 (fun i x hx => hR.st _ _ _ _ _ hk1.keep (hoe i x hx))
    (fun i x hx => by
      have hi : i = 0 := by
        rcases Nat.eq_zero_or_pos i with h | h
        · exact h
        · rw [List.getElem?_eq_none (by simp; omega)] at hx; cases hx
      subst hi
      simp only [List.getElem?_cons_zero, Option.some.injEq] at hx
      subst hx
      simp only [Nat.zero_mul, List.drop_zero]
      rw [List.take_of_length_le (by omega)]
      exact hR.st _ _ _ _ _ hk1.keep hy) h3 h4
  refine Wl.val (w' := w1) (v := .slice (some ⟨w.heap.size, 0, none⟩) 1 1) ?_ (Wl.val (w' := w') (v := v') ?_ (c v' w' _ ⟨ocs ++ cs, ?_, hel⟩ ?_ (h4.imp id fun h b hb => by have := h b hb; omega)))
  · simp only [execOp, List.map_toArray, List.map_cons, List.map_nil, hx, Sem.run_bind, r1, Result.andThen_ok, Sem.run_pure, w1]
  · have e1 : ev n (upd F d1 (.slice (some ⟨w.heap.size, 0, none⟩) 1 1)) s = v := by
      cases s with
      | tmp q =>
        simp only [ev] at hs ⊢
        rw [upd_eq, if_neg (Nat.ne_of_beq_eq_false hsd)]
        exact hs
      | _ => exact hs
    have e2 : ev n (upd F d1 (.slice (some ⟨w.heap.size, 0, none⟩) 1 1)) (.tmp d1) = .slice (some ⟨w.heap.size, 0, none⟩) 1 1 := by
      simp only [ev, hd, upd_eq, if_pos]
    simp only [execOp, resolve, invoke, builtin, Sem.run_bind, Sem.run_pure, Result.andThen_ok, List.map_toArray, List.map_cons, List.map_nil, e1, e2, hr]
  · rw [List.length_append, List.length_singleton]
    exact h2.mono fun b _ hb => hb.imp id (fun h => by omega)
  · exact hk1.any.trans h3 fun _ _ h => h
/-- 's = append(s, l...)'. -/
theorem Wl.appendAll {x s : Operand} {t e : TypeId} {sz bytes : Nat} {agg : Bool} {z v u : Value} {Pr : Nat → Prop} {ys : List α} (hR : GoodR R sz)
    (hown : OwnS R e sz Pb Pe w v xs) (hr : RdS R sz Pr w u ys) (hp : ∀ y cs, R Pr w y cs → R (fun b => Pe b ∧ v.ownBlock ≠ some b) w y cs) [ht : Und P t (.slice e)] [he : ElT P e sz bytes agg z] (hs : ev n F s = v) (hx : ev n F x = u)
    (hsz : 0 < sz) (h63 : xs.length + ys.length ≤ maxLen) (hby : (xs.length + ys.length) * bytes ≤ 140737488355328)
    (c : ∀ v' w', OwnS R e sz (fun b => Pb b ∨ w.heap.size ≤ b) Pe w' v' (xs ++ ys) → Chg (fun b => v.ownBlock = some b) w w' → (v'.ownBlock = v.ownBlock ∨ ∀ b, v'.ownBlock = some b → w.heap.size ≤ b) → (Builtin.append_ #[t, t] ty #[v, u]).run P w = .ok v' w' → Wl P n ds Q ops rest (upd F d v') w') :
    Wl P n ds Q ops (⟨some d, .call { callee := .builtin .append, args := #[s, x], argTypes := #[t, t] }, ty, pos, aft, none⟩ :: rest) F w := by
  obtain ⟨ocs, hoc, hoe⟩ := hown
  have run : ∀ v' w', (Builtin.append_ #[t, t] ty #[v, u]).run P w = .ok v' w' → (execOp (ev n F) ⟨some d, .call { callee := .builtin .append, args := #[s, x], argTypes := #[t, t] }, ty, pos, aft, none⟩).run P w = .ok (.value v') w' := by
    intro v' w' h
    simp only [execOp, resolve, invoke, builtin, Sem.run_bind, Sem.run_pure, Result.andThen_ok, List.map_toArray, List.map_cons, List.map_nil, hs, hx, h]
  rcases hr with ⟨rfl, rfl⟩ | ⟨a, cap, rfl, rfl, _⟩ | ⟨b, off, cap, cur, e', fr, rfl, hb, hh, h1, h2, h3, h4⟩
  rotate_left
  · obtain ⟨v', w', hr, g2, g3, g4⟩ := run_append_c (P := P) (w := w) t ty e ht.h he hsz hoc a 0 cap [] (by simp) (fun j u hu => by simp at hu) (by simp) (by omega) (by simpa using hby)
    refine Wl.val (run _ _ hr) (c v' w' ⟨ocs ++ [], ?_, elems_append hR hoc.1 hoe (ys := []) (fun i x hx => by simp at hx) g3 g4⟩ g3 g4 hr)
    simpa using g2
  rotate_left
  · refine Wl.val (run _ _ (run_append_c0 (P := P) (w := w) t ty e ht.h he hoc)) (c v w ⟨ocs, by simpa using hoc.mono fun b _ hb => Or.inl hb, by simpa using hoe⟩ (Chg.refl _ _) (.inl rfl) (run_append_c0 (P := P) (w := w) t ty e ht.h he hoc))
  · let news := (cur.toList.drop off).take (ys.length * sz)
    have hnl : news.length = ys.length * sz := by simp [news]; omega
    have hnc : ∀ j u, news[j]? = some u → w.cell? ((⟨b, off, none⟩ : Addr).add j) = some u := by
      intro j q hq
      rw [addr_add]
      simp only [World.cell?, hh]
      simp only [news, List.getElem?_take, List.getElem?_drop] at hq
      split at hq
      · simpa using hq
      · cases hq
    have hne : ∀ (i : Nat) (y : α), ys[i]? = some y → R (fun b => Pe b ∧ v.ownBlock ≠ some b) w y ((news.drop (i * sz)).take sz) := by
      intro i y hy
      have hi : i < ys.length := (List.getElem?_eq_some_iff.1 hy).1
      have hle : (i + 1) * sz ≤ ys.length * sz := Nat.mul_le_mul_right _ hi
      rw [Nat.add_mul] at hle
      have e1 : (news.drop (i * sz)).take sz = (cur.toList.drop (off + i * sz)).take sz := by
        simp only [news]
        rw [List.drop_take, List.take_take, Nat.min_eq_left (by omega), List.drop_drop]
      rw [e1]
      exact hp _ _ (h4 i y hy)
    have h1c : ∀ u ∈ news, u.oneCell' = true := by
      intro q hq
      obtain ⟨j, hj, rfl⟩ := List.getElem_of_mem hq
      rw [hnl] at hj
      have hjs : j / sz < ys.length := Nat.div_lt_of_lt_mul (by rw [Nat.mul_comm]; exact hj)
      have h5 := hne (j / sz) ys[j / sz] (List.getElem?_eq_getElem hjs)
      have hle : (j / sz + 1) * sz ≤ ys.length * sz := Nat.mul_le_mul_right _ hjs
      rw [Nat.add_mul] at hle
      refine hR.oc _ _ _ _ h5 (by simp; omega) _ ?_
      have hm : j % sz < sz := Nat.mod_lt _ hsz
      have hdm := Nat.div_add_mod j sz
      rw [Nat.mul_comm] at hdm
      refine List.mem_iff_getElem?.2 ⟨j % sz, ?_⟩
      rw [List.getElem?_take, if_pos hm, List.getElem?_drop, hdm, List.getElem?_eq_getElem]
    obtain ⟨v', w', hr, g2, g3, g4⟩ := run_append_c (P := P) (w := w) t ty e ht.h he hsz hoc ⟨b, off, none⟩ ys.length cap news hnl hnc h1c h63 hby
    refine Wl.val (run _ _ hr) (c v' w' ⟨ocs ++ news, ?_, elems_append hR hoc.1 hoe hne g3 g4⟩ g3 g4 hr)
    rw [List.length_append]
    exact g2
/-- '[]T{}'. -/
theorem Wl.buildSlice0 {t e : TypeId} {sz bytes : Nat} {agg : Bool} {z : Value} [ht : Und P t (.slice e)] [he : ElT P e sz bytes agg z]
    (c : ∀ v w', OwnS R e sz (fun b => w.heap.size ≤ b) Pe w' v [] → New w w' → Wl P n ds Q ops rest (upd F d v) w') :
    Wl P n ds Q ops (⟨some d, .buildSlice t 0 #[], ty, pos, aft, none⟩ :: rest) F w := by
  have r : (Instr.buildSlice t 0 #[]).run P w = .ok (.slice (some ⟨w.heap.size, 0, none⟩) 0 0) (w.alloc (.cells #[] e)) := by
    simp [Instr.buildSlice, run_underlying ht.h, he.sizeOf, Instr.fill, newRow, Array.range_zero']
  refine Wl.val (w' := w.alloc (.cells #[] e)) (v := .slice (some ⟨w.heap.size, 0, none⟩) 0 0) (by simp only [execOp, List.map_toArray, List.map_nil, Sem.run_bind, r, Result.andThen_ok, Sem.run_pure]) (c _ _ ⟨[], ⟨by simp, .inr ⟨w.heap.size, 0, #[], rfl, Nat.le_refl _, heap_alloc_new w _, Nat.le_refl _, by unfold maxLen; omega, by simp, by simp⟩⟩, fun i x hx => by simp at hx⟩ (Chg.alloc _ _ _))
/-- 'make([]T, 0, c)'. -/
theorem Wl.make0 {x y : Operand} {t e : TypeId} {sz bytes : Nat} {agg : Bool} {z : Value} {kl kc : IntKind} {c : Int}
    [ht : Und P t (.slice e)] [he : ElT P e sz bytes agg z] (hx : ev n F x = .int kl 0) (hy : ev n F y = .int kc c) (h0 : 0 ≤ c) (hby : bytes * c.toNat ≤ 281474976710656) (h63 : c ≤ 9223372036854775807)
    (c : ∀ v w', OwnS R e sz (fun b => w.heap.size ≤ b) Pe w' v [] → New w w' → Wl P n ds Q ops rest (upd F d v) w') :
    Wl P n ds Q ops (⟨some d, .makeSlice t x y, ty, pos, aft, none⟩ :: rest) F w := by
  obtain ⟨m, rfl⟩ := Int.eq_ofNat_of_zero_le h0
  obtain ⟨i, hi, hsz', hby', hz'⟩ := he.inf
  rw [Int.toNat_natCast] at hby
  have hb' : (i.bytes : Int) * (m : Int) ≤ 281474976710656 := by
    have h : ((i.bytes * m : Nat) : Int) ≤ 281474976710656 := by rw [hby']; omega
    rwa [Int.natCast_mul] at h
  have hr := run_make (P := P) w t e i z ht.h hi hz' kl kc 0 m (Int.le_refl _) (by omega) hb' h63
  simp only [Int.toNat_zero, Int.toNat_natCast] at hr
  refine Wl.val (v := .slice (some ⟨w.heap.size, 0, none⟩) 0 m) (w' := w.alloc (.cells (madeCells z.cells (m * i.size)) e)) ?_ (c _ _ ⟨[], ⟨by simp, .inr ⟨w.heap.size, m, _, rfl, Nat.le_refl _, heap_alloc_new w _, Nat.zero_le _, by unfold maxLen; omega, ?_, by simp⟩⟩, fun i x hx => by simp at hx⟩ (Chg.alloc _ _ _))
  · simp only [execOp, hx, hy, Sem.run_bind, hr, Result.andThen_ok, Sem.run_pure]
  · rw [size_madeCells, hsz']
/-- 'make([]T, c)', plain elements of one cell. -/
theorem Wl.makeN {f : α → Value} {y0 : α} {x y : Operand} {t e : TypeId} {bytes : Nat} {agg : Bool} {z : Value} {kl kc : IntKind} {c : Int}
    [ht : Und P t (.slice e)] [he : ElT P e 1 bytes agg z] (hz0 : z.cells = #[f y0]) (hx : ev n F x = .int kl c) (hy : ev n F y = .int kc c) (h0 : 0 ≤ c) (hby : bytes * c.toNat ≤ 281474976710656) (h63 : c ≤ 9223372036854775807)
    (c : ∀ v w', OwnS (one f) e 1 (fun b => w.heap.size ≤ b) Pe w' v (List.replicate c.toNat y0) → New w w' → Wl P n ds Q ops rest (upd F d v) w') :
    Wl P n ds Q ops (⟨some d, .makeSlice t x y, ty, pos, aft, none⟩ :: rest) F w := by
  obtain ⟨m, rfl⟩ := Int.eq_ofNat_of_zero_le h0
  obtain ⟨i, hi, hsz', hby', hz'⟩ := he.inf
  rw [Int.toNat_natCast] at *
  have hb' : (i.bytes : Int) * (m : Int) ≤ 281474976710656 := by
    have h : ((i.bytes * m : Nat) : Int) ≤ 281474976710656 := by rw [hby']; omega
    rwa [Int.natCast_mul] at h
  have hr := run_make (P := P) w t e i z ht.h hi hz' kl kc m m (by omega) (Int.le_refl _) hb' h63
  simp only [Int.toNat_natCast, hsz', Nat.mul_one, hz0] at hr
  refine Wl.val (v := .slice (some ⟨w.heap.size, 0, none⟩) m m) (w' := w.alloc (.cells (madeCells #[f y0] m) e)) ?_ (c _ _ ⟨List.replicate m (f y0), ⟨by simp, .inr ⟨w.heap.size, m, madeCells #[f y0] m, by simp, Nat.le_refl _, heap_alloc_new w _, by simp, by unfold maxLen; omega, by rw [size_madeCells]; simp, ?_⟩⟩, fun i x hx => ?_⟩ (Chg.alloc _ _ _))
  · simp only [execOp, hx, hy, Sem.run_bind, hr, Result.andThen_ok, Sem.run_pure]
  · rw [toList_madeCells_one]; simp
  have hi2 : i < m := by have := (List.getElem?_eq_some_iff.1 hx).1; simpa using this
  rw [List.getElem?_replicate, if_pos hi2] at hx
  cases hx
  simp only [one, Nat.mul_one, List.drop_replicate, List.take_replicate]
  rw [Nat.min_eq_left (by omega)]; rfl
/-- 's[j] = x', one cell. -/
theorem run_store1 {e : TypeId} {bytes : Nat} {z u : Value} {agg : Bool} {m : Nat} {cs : List Value} {v : Value} (he : ElT P e 1 bytes agg z) (hoc : OwnC Pb w e 1 v m cs) {g cap : Nat} (hv : v = .slice (some ⟨g, 0, none⟩) m cap) {j : Nat} (hj : j < m) (hu : u.oneCell' = true) (huc : u.cells = #[u]) :
    ∃ w', (Instr.storeAt e (.pointer (some ⟨g, j, none⟩)) u).run P w = .ok () w' ∧ OwnC Pb w' e 1 v m (cs.set j u) ∧ Chg (fun b => v.ownBlock = some b) w w' := by
  obtain ⟨hl, h⟩ := hoc
  rcases h with ⟨rfl, _⟩ | ⟨g', cap', cur, rfl, hb, hg, h1, h2, h3, h4⟩
  · cases hv
  · cases hv
    have hr := run_storeCells_at P g j e [u] 0 cur w hg (by simp; omega) (by simpa using hu)
    have e1 : (cur.toList.take j ++ [u] ++ cur.toList.drop (j + 1)).toArray = cur.setIfInBounds j u := by
      apply Array.ext'
      rw [Array.toList_setIfInBounds, List.set_eq_take_append_cons_drop, if_pos (by simp; omega)]
      simp
    simp only [Nat.add_zero, List.length_singleton, e1] at hr
    refine ⟨w.setRow g (cur.setIfInBounds j u), ?_, ⟨by simpa using hl, .inr ⟨g, cap, cur.setIfInBounds j u, rfl, hb, setRow_heap w g cur _ e _ hg, h1, h2, by simpa using h3, ?_⟩⟩, Chg.setRow rfl⟩
    · simp only [Instr.storeAt, Instr.sureAddr, storeVar, Sem.run_bind, Sem.run_pure, Result.andThen_ok, he.sizeOf, huc]
      simpa using hr
    · rw [Array.toList_setIfInBounds, ← h4, List.take_set]
theorem OwnS.set1 {f : α → Value} {e : TypeId} {v : Value} {xs : List α} {m : Nat} {cs : List Value} (hm : m = xs.length) (hoc : OwnC Pb w e 1 v m cs) (he : ∀ (i : Nat) (x : α), xs[i]? = some x → one f (fun b => Pe b ∧ v.ownBlock ≠ some b) w x ((cs.drop (i * 1)).take 1)) (j : Nat) (y : α)
    (hoc' : OwnC Pb w' e 1 v m (cs.set j (f y))) : OwnS (one f) e 1 Pb Pe w' v (xs.set j y) := by
  subst hm
  refine ⟨cs.set j (f y), by simpa using hoc', fun i x hx => ?_⟩
  have hl : cs.length = xs.length := by simpa using hoc.1
  simp only [one, Nat.mul_one] at he ⊢
  have hi : i < xs.length := by have := (List.getElem?_eq_some_iff.1 hx).1; simpa using this
  have hi2 : i < (cs.set j (f y)).length := by simp; omega
  rw [List.drop_eq_getElem_cons hi2]
  simp only [List.take_succ_cons, List.take_zero, List.cons.injEq, and_true, List.getElem_set]
  rw [List.getElem?_set] at hx
  split
  · rename_i e; subst e; rw [if_pos rfl] at hx; simp only [hi, if_true] at hx; cases hx; rfl
  · rename_i hne
    rw [if_neg hne] at hx
    have := he i x hx
    rw [List.drop_eq_getElem_cons (show i < cs.length by omega), List.take_succ_cons, List.take_zero] at this
    exact (List.cons.inj this).1
/-- 's[j] = x', plain elements of one cell. -/
theorem Wl.idxStore {f : α → Value} {x i y : Operand} {t e e' : TypeId} {bytes : Nat} {agg : Bool} {z v u : Value} {k : IntKind} {j : Int} {q : α}
    (hown : OwnS (one f) e 1 Pb Pe w v xs) [ht : Und P t (.slice e)] [he : ElT P e 1 bytes agg z] (hx : ev n F x = v) (hi : ev n F i = .int k j) (h0 : 0 ≤ j) (hj : j < xs.length) (hy : ev n F y = u) (hq : u = f q) (hu : u.oneCell' = true) (hd : Nat.blt d1 n = true) (hyd : (match y with | .tmp q => Nat.beq q d1 | _ => false) = false) (hee : e' = e)
    (c : ∀ p w', OwnS (one f) e 1 Pb Pe w' v (xs.set j.toNat q) → Chg (fun b => v.ownBlock = some b) w w' → Wl P n ds Q ops rest (upd F d1 p) w') :
    Wl P n ds Q ops (⟨some d1, .indexAddr t x i, ty1, pos1, aft1, none⟩ :: ⟨none, .store e' (.tmp d1) y, ty2, pos2, aft2, none⟩ :: rest) F w := by
  subst hee
  subst hq
  obtain ⟨cs, hoc, hel⟩ := hown
  have huc : (f q).cells = #[f q] := by cases hf : f q <;> simp_all [Value.cells, Value.oneCell']
  rcases hoc.2 with ⟨rfl, hm⟩ | ⟨g, cap, cur, rfl, hb, hg, h1, h2, h3, h4⟩
  · omega
  · obtain ⟨w', hr, hoc', hc⟩ := run_store1 (P := P) (u := f q) he hoc rfl (j := j.toNat) (by omega) hu huc
    refine Wl.val (w' := w) (v := .pointer (some ⟨g, j.toNat, none⟩)) ?_ (Wl.unit (w' := w') ?_ (c _ w' (OwnS.set1 rfl hoc hel _ _ hoc') hc))
    · have := run_indexAt (P := P) (w := w) (a := ⟨g, 0, none⟩) (l := xs.length) (cap := cap) (k := k) ht.h he h0 hj
      rw [addr_add] at this
      simp only [execOp, hx, hi, Sem.run_bind, this, Result.andThen_ok, Sem.run_pure, Nat.zero_add, Nat.mul_one]
    · have e1 : ev n (upd F d1 (.pointer (some ⟨g, j.toNat, none⟩))) y = f q := by
        cases y with
        | tmp q' =>
          simp only [ev] at hy ⊢
          rw [upd_eq, if_neg (Nat.ne_of_beq_eq_false hyd)]
          exact hy
        | _ => exact hy
      simp only [execOp, e1, Sem.run_bind]
      simp only [ev, hd, upd_eq, if_pos, hr, Result.andThen_ok, Sem.run_pure]
theorem Wl.buildSliceE {t e : TypeId} {sz bytes : Nat} {agg : Bool} {z : Value} [ht : Und P t (.slice e)] [he : ElT P e sz bytes agg z]
    (c : ∀ w', w'.heap[w.heap.size]? = some (.cells #[] e (0, 0)) → New w w' → Wl P n ds Q ops rest (upd F d (.slice (some ⟨w.heap.size, 0, none⟩) 0 0)) w') :
    Wl P n ds Q ops (⟨some d, .buildSlice t 0 #[], ty, pos, aft, none⟩ :: rest) F w := by
  have r : (Instr.buildSlice t 0 #[]).run P w = .ok (.slice (some ⟨w.heap.size, 0, none⟩) 0 0) (w.alloc (.cells #[] e)) := by
    simp [Instr.buildSlice, run_underlying ht.h, he.sizeOf, Instr.fill, newRow, Array.range_zero']
  exact Wl.val (w' := w.alloc (.cells #[] e)) (v := .slice (some ⟨w.heap.size, 0, none⟩) 0 0) (by simp only [execOp, List.map_toArray, List.map_nil, Sem.run_bind, r, Result.andThen_ok, Sem.run_pure]) (c _ (heap_alloc_new w _) (Chg.alloc _ _ _))
/-- 'append([]T{}, l...)', the first a literal of no elements: nothing old turns. -/
theorem Wl.appendZ {x s : Operand} {t e : TypeId} {sz bytes : Nat} {agg : Bool} {z u : Value} {Pr : Nat → Prop} {ys : List α} {g : Nat} (hR : GoodR R sz)
    (hg : w.heap[g]? = some (.cells #[] e (0, 0))) (hr : RdS R sz Pr w u ys) (hp : ∀ y cs, R Pr w y cs → R (fun b => Pe b ∧ g ≠ b) w y cs) [ht : Und P t (.slice e)] [he : ElT P e sz bytes agg z] (hs : ev n F s = .slice (some ⟨g, 0, none⟩) 0 0) (hx : ev n F x = u)
    (hsz : 0 < sz) (h63 : ys.length ≤ maxLen) (hby : ys.length * bytes ≤ 140737488355328)
    (c : ∀ v' w', OwnS R e sz (fun b => b = g ∨ w.heap.size ≤ b) Pe w' v' ys → New w w' → Wl P n ds Q ops rest (upd F d v') w') :
    Wl P n ds Q ops (⟨some d, .call { callee := .builtin .append, args := #[s, x], argTypes := #[t, t] }, ty, pos, aft, none⟩ :: rest) F w := by
  have hown : OwnS R e sz (fun b => b = g) Pe w (.slice (some ⟨g, 0, none⟩) 0 0) ([] : List α) :=
    ⟨[], ⟨by simp, .inr ⟨g, 0, #[], rfl, rfl, hg, Nat.le_refl _, by unfold maxLen; omega, by simp, by simp⟩⟩, fun i x hx => by simp at hx⟩
  have hr0 := hr
  refine Wl.appendAll hR hown hr (fun y cs h => ?_) hs hx hsz (by simpa using h63) (by simpa using hby) fun v' w' o c' l hrun => ?_
  · have := hp y cs h
    simpa [Value.ownBlock] using this
  · rw [List.nil_append] at o
    refine c v' w' o ?_
    rcases hr0 with ⟨rfl, rfl⟩ | ⟨a, cap, rfl, rfl, _⟩ | ⟨b, off, cap, cur, e', fr, rfl, hb, hh, h1, h2, h3, h4⟩
    rotate_left
    · obtain ⟨i, hi, hsz', hby', hz'⟩ := he.inf
      have h := run_append_room (P := P) w t ty e i ht.h hi g 0 0 #[] hg a 0 cap [] (by simp) (fun j u hu => by simp at hu) (by simp) (by omega) (by simp)
      rw [h] at hrun
      cases hrun
      have e1 : (List.take (0 * i.size) (#[] : Array Value).toList ++ [] ++ List.drop (0 * i.size + ([] : List Value).length) (#[] : Array Value).toList).toArray = #[] := by simp
      rw [e1, setRow_self w g #[] e (0, 0) hg]
      exact Chg.refl _ _
    rotate_left
    · obtain ⟨ocs, hoc, _⟩ := hown
      have h := run_append_c0 (P := P) (w := w) t ty e ht.h he hoc
      rw [h] at hrun
      cases hrun
      exact Chg.refl _ _
    · obtain ⟨i, hi, hsz', hby', hz'⟩ := he.inf
      have hnc : ∀ j u, ((cur.toList.drop off).take (ys.length * sz))[j]? = some u → w.cell? ((⟨b, off, none⟩ : Addr).add j) = some u := by
        intro j q hq
        rw [addr_add]
        simp only [World.cell?, hh]
        simp only [List.getElem?_take, List.getElem?_drop] at hq
        split at hq
        · simpa using hq
        · cases hq
      by_cases hy : ys.length = 0
      · have h := run_append_room (P := P) w t ty e i ht.h hi g 0 0 #[] hg ⟨b, off, none⟩ ys.length cap [] (by simp [hy]) (fun j u hu => by simp at hu) (by simp) (by omega) (by simp)
        rw [h] at hrun
        cases hrun
        have e1 : (List.take (0 * i.size) (#[] : Array Value).toList ++ [] ++ List.drop (0 * i.size + ([] : List Value).length) (#[] : Array Value).toList).toArray = #[] := by simp
        rw [e1, setRow_self w g #[] e (0, 0) hg]
        exact Chg.refl _ _
      · have h := run_append_grow (P := P) w t ty e i z ht.h hi hz' ⟨g, 0, none⟩ 0 0 [] (by simp) (fun j u hu => by simp at hu) ⟨b, off, none⟩ ys.length cap ((cur.toList.drop off).take (ys.length * sz)) (by rw [hsz']; simp; omega) hnc (by omega) (by have : maxLen = 9223372036854775807 := rfl; omega) (growslice_fits (by omega) (by rw [hby']; simpa using hby))
        rw [h] at hrun
        cases hrun
        exact ⟨rfl, rfl, rfl, by simp, fun k hk _ => World.heap_old w.drew _ hk⟩
end
end Go.Proofs.YtpnpllghabbhlaaGreatDoor.Wk

namespace Go.Proofs.YtpnpllghabbhlaaGreatDoor.Wk
open Go Go.RowKit

/-- The lexical walk of such a region: C, the worlds that it may be in. -/
def Wq (P : Program) (n : Nat) (ds : List Deferred) (C : World → Prop) (K : Fr → Prop) (ops : List Oper) (l : List Oper) (F : Fr) : Prop :=
  wpQuiet P ops.toArray C (fun a => ∃ F', a = act n ds F' ∧ K F') l (act n ds F)
section
variable {P : Program} {n : Nat} {ds : List Deferred} {C : World → Prop} {K : Fr → Prop} {F : Fr} {ops rest : List Oper} {d d1 d2 : Nat} {ty ty1 ty2 : TypeId} {pos pos1 pos2 : String} {aft aft1 aft2 : Array Edge}
theorem Wq.nil (h : K F) : Wq P n ds C K ops [] F := ⟨F, rfl, h⟩
theorem Wq.val {op : Op} {v : Value} (hr : ∀ w, C w → (execOp (ev n F) ⟨some d, op, ty, pos, aft, none⟩).run P w = .ok (.value v) w)
    (k : Wq P n ds C K ops rest (upd F d v)) : Wq P n ds C K ops (⟨some d, op, ty, pos, aft, none⟩ :: rest) F := by
  refine wpQuiet_step fun K' hK => ?_
  rw [if_pos (by simp [Region.wanted])]
  refine ⟨v, fun w hw => ?_, ?_⟩
  · unfold Oper.quietAt
    rw [act_eval', hr w hw]
    exact ⟨rfl, rfl⟩
  · rw [act_put]
    exact hK _ k
theorem Wq.guardY {o : Oper} {j : Nat} {b : Bool} (hg : o.guard = some (j, b)) (hy : yld ops n F j = some b)
    (k : Wq P n ds C K ops ({ o with guard := none } :: rest) F) : Wq P n ds C K ops (o :: rest) F := by
  have hw : Region.wanted o (yielded ops.toArray (act n ds F).tmps) = true := by
    simp only [Region.wanted, hg, act, yielded_eq, hy]; simp
  have hw2 : Region.wanted { o with guard := none } (yielded ops.toArray (act n ds F).tmps) = true := rfl
  unfold Wq wpQuiet at k ⊢
  rw [if_pos hw]
  rw [if_pos hw2] at k
  exact k
theorem Wq.guardN {op : Op} {j : Nat} {b c : Bool} (hy : yld ops n F j = some c) (hbc : (c == b) = false)
    (k : Wq P n ds C K ops rest (upd F d undef)) : Wq P n ds C K ops (⟨some d, op, ty, pos, aft, some (j, b)⟩ :: rest) F := by
  have hw : Region.wanted ⟨some d, op, ty, pos, aft, some (j, b)⟩ (yielded ops.toArray (act n ds F).tmps) = false := by
    simp only [Region.wanted, act, yielded_eq, hy]; simpa using hbc
  unfold Wq wpQuiet
  rw [if_neg (by rw [hw]; simp), act_put]
  exact k
/-- A call of a function that hands back this value, in whatever world of the class. -/
theorem Wq.call {args : List Operand} {ts : Array TypeId} {f : FuncId} {vs : List Value} {v : Value}
    [hc : Callable P f] (h : ∀ w, C w → Calls P f vs.toArray w (fun e w' => e = .returned v ∧ C w')) (ha : args.map (ev n F) = vs) (k : Wq P n ds C K ops rest (upd F d v)) :
    Wq P n ds C K ops (⟨some d, .call { callee := .value (.func f), args := args.toArray, argTypes := ts }, ty, pos, aft, none⟩ :: rest) F := by
  refine wpQuiet_step fun K' hK => ?_
  rw [if_pos (by simp [Region.wanted])]
  refine ⟨v, fun w hw => ?_, ?_⟩
  · unfold Oper.quietAt
    have e : (execOp (ev n F) ⟨some d, .call { callee := .value (.func f), args := args.toArray, argTypes := ts }, ty, pos, aft, none⟩).run P w = .ok (.enter f vs.toArray) w := by
      subst ha
      simp only [execOp, resolve, ev, Deferred.ofValue, Sem.run_bind, Sem.run_pure, Result.andThen_ok, invoke, run_callFunc hc]
      congr 3
      apply Array.ext'
      simp
    rw [act_eval', e]
    exact ⟨rfl, h w hw⟩
  · rw [act_put]
    exact hK _ k
theorem Wc.regionQ {Q : Po} {w : World} {id : Nat} {l : List Oper} (C : World → Prop) (hm : P.follows .mixedOrders = true) (hB : Region.lexB .any l.toArray = true) (hC : C w.drew)
    (h : Wq P n ds C (fun F' => ∀ w', C w' → Q .normal F' w') l l F) : Wc P n ds Q (.region id l.toArray true) F w := by
  unfold Wc
  refine wp_region_quiet (C := C) hm hB hC ?_
  have : ∀ (l' : List Oper) (a : Act), wpQuiet P l.toArray C (fun a => ∃ F', a = act n ds F' ∧ ∀ w', C w' → Q .normal F' w') l' a → wpQuiet P l.toArray C (fun a' => ∀ w', C w' → QA n ds Q .normal a' w') l' a := by
    intro l'
    induction l' with
    | nil => rintro a ⟨F', rfl, hk⟩ w' hw'; exact ⟨F', rfl, hk w' hw'⟩
    | cons o r ih =>
      intro a ha
      unfold wpQuiet at ha ⊢
      split
      · rename_i hw; rw [if_pos hw] at ha; exact Oper.quiet_mono ih ha
      · rename_i hw; rw [if_neg hw] at ha; exact ih _ ha
  simpa using this l _ h
/-- The class of worlds in which nothing of w has turned. -/
theorem Wc.regionN {Q : Po} {w : World} {id : Nat} {l : List Oper} (hm : P.follows .mixedOrders = true) (hB : Region.lexB .any l.toArray = true)
    (h : Wq P n ds (New w) (fun F' => ∀ w', New w w' → Q .normal F' w') l l F) : Wc P n ds Q (.region id l.toArray true) F w :=
  Wc.regionQ (New w) hm hB (Chg.drew _ _) h
/-! Plain operations. -/
theorem Wq.move {x : Operand} (k : Wq P n ds C K ops rest (upd F d (ev n F x))) : Wq P n ds C K ops (⟨some d, .move x, ty, pos, aft, none⟩ :: rest) F :=
  Wq.val (fun w _ => by simp [execOp]) k
theorem Wq.assign {x : Operand} (k : Wq P n ds C K ops rest (upd F d (ev n F x))) : Wq P n ds C K ops (⟨some d, .assign x, ty, pos, aft, none⟩ :: rest) F :=
  Wq.val (fun w _ => by simp [execOp]) k
theorem Wq.extract {x : Operand} {i : Nat} {l : List Value} {v : Value} (h : ev n F x = .tuple l.toArray) (hi : l[i]? = some v)
    (k : Wq P n ds C K ops rest (upd F d v)) : Wq P n ds C K ops (⟨some d, .extract x i, ty, pos, aft, none⟩ :: rest) F :=
  Wq.val (fun w _ => by simp [execOp, h, Instr.extract, hi]) k
theorem Wq.pickT {c a b : Operand} (h : ev n F c = .bool true) (k : Wq P n ds C K ops rest (upd F d (ev n F a))) : Wq P n ds C K ops (⟨some d, .pick c a b, ty, pos, aft, none⟩ :: rest) F :=
  Wq.val (fun w _ => by simp [execOp, h, asBool]) k
theorem Wq.pickF {c a b : Operand} (h : ev n F c = .bool false) (k : Wq P n ds C K ops rest (upd F d (ev n F b))) : Wq P n ds C K ops (⟨some d, .pick c a b, ty, pos, aft, none⟩ :: rest) F :=
  Wq.val (fun w _ => by simp [execOp, h, asBool]) k
theorem Wq.moveE {x : Operand} {v : Value} (h : ev n F x = v) (k : Wq P n ds C K ops rest (upd F d v)) : Wq P n ds C K ops (⟨some d, .move x, ty, pos, aft, none⟩ :: rest) F :=
  Wq.move (h ▸ k)
theorem Wq.assignE {x : Operand} {v : Value} (h : ev n F x = v) (k : Wq P n ds C K ops rest (upd F d v)) : Wq P n ds C K ops (⟨some d, .assign x, ty, pos, aft, none⟩ :: rest) F :=
  Wq.assign (h ▸ k)
theorem Wq.pickTE {c a b : Operand} {v : Value} (h : ev n F c = .bool true) (h' : ev n F a = v) (k : Wq P n ds C K ops rest (upd F d v)) : Wq P n ds C K ops (⟨some d, .pick c a b, ty, pos, aft, none⟩ :: rest) F :=
  Wq.pickT h (h' ▸ k)
theorem Wq.pickFE {c a b : Operand} {v : Value} (h : ev n F c = .bool false) (h' : ev n F b = v) (k : Wq P n ds C K ops rest (upd F d v)) : Wq P n ds C K ops (⟨some d, .pick c a b, ty, pos, aft, none⟩ :: rest) F :=
  Wq.pickF h (h' ▸ k)
theorem Wq.notB {x : Operand} {t : TypeId} {b : Bool} (h : ev n F x = .bool b) (k : Wq P n ds C K ops rest (upd F d (.bool !b))) : Wq P n ds C K ops (⟨some d, .unOp .not t x, ty, pos, aft, none⟩ :: rest) F :=
  Wq.val (fun w _ => by simp [execOp, h, Op.unary]) k

section cmp
variable {x y : Operand} {t t' : TypeId} {a b : Int} {k : IntKind}
theorem Wq.cmp {op : BinOp} {r : Bool} (hr : Op.intCmp op a b = pure (.bool r)) (hop : op ≠ .add ∧ op ≠ .sub ∧ op ≠ .mul ∧ op ≠ .quo ∧ op ≠ .rem ∧ op ≠ .and ∧ op ≠ .or ∧ op ≠ .xor ∧ op ≠ .andNot ∧ op ≠ .shl ∧ op ≠ .shr) (hx : ev n F x = .int k a) (hy : ev n F y = .int k b)
    (c : Wq P n ds C K ops rest (upd F d (.bool r))) : Wq P n ds C K ops (⟨some d, .binOp op t x y t', ty, pos, aft, none⟩ :: rest) F := by
  refine Wq.val (fun w _ => ?_) c
  simp only [execOp, hx, hy, Sem.run_bind, run_eqGuard_int, Result.andThen_ok]
  have : binOp op t (.int k a) (.int k b) = Op.intCmp op a b := by cases op <;> simp_all [binOp]
  rw [this, hr]; rfl
theorem Wq.lss (hx : ev n F x = .int k a) (hy : ev n F y = .int k b) (ht : a < b → Wq P n ds C K ops rest (upd F d (.bool true))) (hf : b ≤ a → Wq P n ds C K ops rest (upd F d (.bool false))) :
    Wq P n ds C K ops (⟨some d, .binOp .lss t x y t', ty, pos, aft, none⟩ :: rest) F := by
  by_cases h : a < b
  · exact Wq.cmp (r := true) (by rw [show Op.intCmp .lss a b = pure (.bool (decide (a < b))) from rfl, decide_eq_true h]) (by simp) hx hy (ht h)
  · exact Wq.cmp (r := false) (by rw [show Op.intCmp .lss a b = pure (.bool (decide (a < b))) from rfl, decide_eq_false h]) (by simp) hx hy (hf (Int.not_lt.1 h))
theorem Wq.leq (hx : ev n F x = .int k a) (hy : ev n F y = .int k b) (ht : a ≤ b → Wq P n ds C K ops rest (upd F d (.bool true))) (hf : b < a → Wq P n ds C K ops rest (upd F d (.bool false))) :
    Wq P n ds C K ops (⟨some d, .binOp .leq t x y t', ty, pos, aft, none⟩ :: rest) F := by
  by_cases h : a ≤ b
  · exact Wq.cmp (r := true) (by rw [show Op.intCmp .leq a b = pure (.bool (decide (a ≤ b))) from rfl, decide_eq_true h]) (by simp) hx hy (ht h)
  · exact Wq.cmp (r := false) (by rw [show Op.intCmp .leq a b = pure (.bool (decide (a ≤ b))) from rfl, decide_eq_false h]) (by simp) hx hy (hf (Int.not_le.1 h))
theorem Wq.gtr (hx : ev n F x = .int k a) (hy : ev n F y = .int k b) (ht : b < a → Wq P n ds C K ops rest (upd F d (.bool true))) (hf : a ≤ b → Wq P n ds C K ops rest (upd F d (.bool false))) :
    Wq P n ds C K ops (⟨some d, .binOp .gtr t x y t', ty, pos, aft, none⟩ :: rest) F := by
  by_cases h : b < a
  · exact Wq.cmp (r := true) (by rw [show Op.intCmp .gtr a b = pure (.bool (decide (a > b))) from rfl, decide_eq_true h]) (by simp) hx hy (ht h)
  · exact Wq.cmp (r := false) (by rw [show Op.intCmp .gtr a b = pure (.bool (decide (a > b))) from rfl, decide_eq_false h]) (by simp) hx hy (hf (Int.not_lt.1 h))
theorem Wq.geq (hx : ev n F x = .int k a) (hy : ev n F y = .int k b) (ht : b ≤ a → Wq P n ds C K ops rest (upd F d (.bool true))) (hf : a < b → Wq P n ds C K ops rest (upd F d (.bool false))) :
    Wq P n ds C K ops (⟨some d, .binOp .geq t x y t', ty, pos, aft, none⟩ :: rest) F := by
  by_cases h : b ≤ a
  · exact Wq.cmp (r := true) (by rw [show Op.intCmp .geq a b = pure (.bool (decide (a ≥ b))) from rfl, decide_eq_true h]) (by simp) hx hy (ht h)
  · exact Wq.cmp (r := false) (by rw [show Op.intCmp .geq a b = pure (.bool (decide (a ≥ b))) from rfl, decide_eq_false h]) (by simp) hx hy (hf (Int.not_le.1 h))
theorem Wq.eql (hx : ev n F x = .int k a) (hy : ev n F y = .int k b) (ht : a = b → Wq P n ds C K ops rest (upd F d (.bool true))) (hf : a ≠ b → Wq P n ds C K ops rest (upd F d (.bool false))) :
    Wq P n ds C K ops (⟨some d, .binOp .eql t x y t', ty, pos, aft, none⟩ :: rest) F := by
  by_cases h : a = b
  · exact Wq.cmp (r := true) (by rw [show Op.intCmp .eql a b = pure (.bool (a == b)) from rfl, show (a == b) = true from beq_iff_eq.2 h]) (by simp) hx hy (ht h)
  · exact Wq.cmp (r := false) (by rw [show Op.intCmp .eql a b = pure (.bool (a == b)) from rfl, show (a == b) = false from beq_eq_false_iff_ne.2 h]) (by simp) hx hy (hf h)
theorem Wq.neq (hx : ev n F x = .int k a) (hy : ev n F y = .int k b) (ht : a ≠ b → Wq P n ds C K ops rest (upd F d (.bool true))) (hf : a = b → Wq P n ds C K ops rest (upd F d (.bool false))) :
    Wq P n ds C K ops (⟨some d, .binOp .neq t x y t', ty, pos, aft, none⟩ :: rest) F := by
  by_cases h : a = b
  · exact Wq.cmp (r := false) (by rw [show Op.intCmp .neq a b = pure (.bool (a != b)) from rfl, show (a != b) = false from by simpa using h]) (by simp) hx hy (hf h)
  · exact Wq.cmp (r := true) (by rw [show Op.intCmp .neq a b = pure (.bool (a != b)) from rfl, show (a != b) = true from by simpa using h]) (by simp) hx hy (ht h)
end cmp

section str
variable {x y : Operand} {t t' : TypeId} {a b : List UInt8}
theorem Wq.seql (hx : ev n F x = vs a) (hy : ev n F y = vs b) (ht : a = b → Wq P n ds C K ops rest (upd F d (.bool true))) (hf : a ≠ b → Wq P n ds C K ops rest (upd F d (.bool false))) :
    Wq P n ds C K ops (⟨some d, .binOp .eql t x y t', ty, pos, aft, none⟩ :: rest) F := by
  by_cases h : a = b
  · exact Wq.val (fun w _ => by simp only [execOp, hx, hy, Sem.run_bind, run_eqGuard_str, Result.andThen_ok, binOp_string_eql, ByteArray.toList_mk, Sem.run_pure, beq_iff_eq.2 h]) (ht h)
  · exact Wq.val (fun w _ => by simp only [execOp, hx, hy, Sem.run_bind, run_eqGuard_str, Result.andThen_ok, binOp_string_eql, ByteArray.toList_mk, Sem.run_pure, beq_eq_false_iff_ne.2 h]) (hf h)
theorem Wq.sneq (hx : ev n F x = vs a) (hy : ev n F y = vs b) (ht : a ≠ b → Wq P n ds C K ops rest (upd F d (.bool true))) (hf : a = b → Wq P n ds C K ops rest (upd F d (.bool false))) :
    Wq P n ds C K ops (⟨some d, .binOp .neq t x y t', ty, pos, aft, none⟩ :: rest) F := by
  by_cases h : a = b
  · exact Wq.val (fun w _ => by simp only [execOp, hx, hy, Sem.run_bind, run_eqGuard_str, Result.andThen_ok, binOp_string_neq, ByteArray.toList_mk, Sem.run_pure, beq_iff_eq.2 h, Bool.not_true]) (hf h)
  · exact Wq.val (fun w _ => by simp only [execOp, hx, hy, Sem.run_bind, run_eqGuard_str, Result.andThen_ok, binOp_string_neq, ByteArray.toList_mk, Sem.run_pure, beq_eq_false_iff_ne.2 h, Bool.not_false]) (ht h)
theorem Wq.sadd (hx : ev n F x = vs a) (hy : ev n F y = vs b) (hb : a.length + b.length ≤ 9223372036854775807) (c : Wq P n ds C K ops rest (upd F d (vs (a ++ b)))) :
    Wq P n ds C K ops (⟨some d, .binOp .add t x y t', ty, pos, aft, none⟩ :: rest) F := by
  refine Wq.val (fun w _ => ?_) c
  have h1 : ¬ (((a.length + b.length : Nat) : Int) > IntKind.i64.max) := by simp [IntKind.max, IntKind.signed, IntKind.bits]; omega
  have h2 : (⟨a.toArray⟩ : ByteArray) ++ ⟨b.toArray⟩ = ⟨(a ++ b).toArray⟩ := by
    apply ByteArray.ext; simp [ByteArray.data_append]
  simp only [execOp, hx, hy, Sem.run_bind, run_eqGuard_str, Result.andThen_ok, binOp_string_add, Op.stringOp, ByteArray.size, List.size_toArray]
  rw [if_neg h1, h2]; rfl
end str

section arith
variable {x y : Operand} {t t' : TypeId} {a b : Int} {k : IntKind}
theorem Wq.add (hx : ev n F x = .int .i64 a) (hy : ev n F y = .int .i64 b) (h0 : -9223372036854775808 ≤ a + b) (h1 : a + b ≤ 9223372036854775807)
    (c : Wq P n ds C K ops rest (upd F d (.int .i64 (a + b)))) : Wq P n ds C K ops (⟨some d, .binOp .add t x y t', ty, pos, aft, none⟩ :: rest) F :=
  Wq.val (fun w _ => by simp [execOp, hx, hy, run_eqGuard_int, binOp, Op.intArith, wrap64_id h0 h1]) c
theorem Wq.sub (hx : ev n F x = .int .i64 a) (hy : ev n F y = .int .i64 b) (h0 : -9223372036854775808 ≤ a - b) (h1 : a - b ≤ 9223372036854775807)
    (c : Wq P n ds C K ops rest (upd F d (.int .i64 (a - b)))) : Wq P n ds C K ops (⟨some d, .binOp .sub t x y t', ty, pos, aft, none⟩ :: rest) F :=
  Wq.val (fun w _ => by simp [execOp, hx, hy, run_eqGuard_int, binOp, Op.intArith, wrap64_id h0 h1]) c
theorem Wq.mul (hx : ev n F x = .int .i64 a) (hy : ev n F y = .int .i64 b) (h0 : -9223372036854775808 ≤ a * b) (h1 : a * b ≤ 9223372036854775807)
    (c : Wq P n ds C K ops rest (upd F d (.int .i64 (a * b)))) : Wq P n ds C K ops (⟨some d, .binOp .mul t x y t', ty, pos, aft, none⟩ :: rest) F :=
  Wq.val (fun w _ => by simp [execOp, hx, hy, run_eqGuard_int, binOp, Op.intArith, wrap64_id h0 h1]) c
theorem Wq.addW (hx : ev n F x = .int k a) (hy : ev n F y = .int k b)
    (c : Wq P n ds C K ops rest (upd F d (.int k (k.wrap (a + b))))) : Wq P n ds C K ops (⟨some d, .binOp .add t x y t', ty, pos, aft, none⟩ :: rest) F :=
  Wq.val (fun w _ => by simp [execOp, hx, hy, run_eqGuard_int, binOp, Op.intArith]) c
theorem Wq.subW (hx : ev n F x = .int k a) (hy : ev n F y = .int k b)
    (c : Wq P n ds C K ops rest (upd F d (.int k (k.wrap (a - b))))) : Wq P n ds C K ops (⟨some d, .binOp .sub t x y t', ty, pos, aft, none⟩ :: rest) F :=
  Wq.val (fun w _ => by simp [execOp, hx, hy, run_eqGuard_int, binOp, Op.intArith]) c
theorem Wq.mulW (hx : ev n F x = .int k a) (hy : ev n F y = .int k b)
    (c : Wq P n ds C K ops rest (upd F d (.int k (k.wrap (a * b))))) : Wq P n ds C K ops (⟨some d, .binOp .mul t x y t', ty, pos, aft, none⟩ :: rest) F :=
  Wq.val (fun w _ => by simp [execOp, hx, hy, run_eqGuard_int, binOp, Op.intArith]) c
theorem Wq.quoW (hx : ev n F x = .int k a) (hy : ev n F y = .int k b) (h0 : b ≠ 0)
    (c : Wq P n ds C K ops rest (upd F d (.int k (k.wrap (a.tdiv b))))) : Wq P n ds C K ops (⟨some d, .binOp .quo t x y t', ty, pos, aft, none⟩ :: rest) F :=
  Wq.val (fun w _ => by simp [execOp, hx, hy, run_eqGuard_int, binOp, Op.intDiv, h0]) c
theorem Wq.remW (hx : ev n F x = .int k a) (hy : ev n F y = .int k b) (h0 : b ≠ 0)
    (c : Wq P n ds C K ops rest (upd F d (.int k (a.tmod b)))) : Wq P n ds C K ops (⟨some d, .binOp .rem t x y t', ty, pos, aft, none⟩ :: rest) F :=
  Wq.val (fun w _ => by simp [execOp, hx, hy, run_eqGuard_int, binOp, Op.intDiv, h0]) c
theorem Wq.shrW {k' : IntKind} (hx : ev n F x = .int k a) (hy : ev n F y = .int k' b) (h0 : 0 ≤ b)
    (c : Wq P n ds C K ops rest (upd F d (.int k (a.fdiv (2 ^ (min b.toNat k.bits)))))) : Wq P n ds C K ops (⟨some d, .binOp .shr t x y t', ty, pos, aft, none⟩ :: rest) F :=
  Wq.val (fun w _ => by simp [execOp, hx, hy, run_eqGuard_int, binOp, Op.shift, Int.not_lt.2 h0]) c
theorem Wq.shlW {k' : IntKind} (hx : ev n F x = .int k a) (hy : ev n F y = .int k' b) (h0 : 0 ≤ b)
    (c : Wq P n ds C K ops rest (upd F d (.int k (k.wrap (a * 2 ^ (min b.toNat k.bits)))))) : Wq P n ds C K ops (⟨some d, .binOp .shl t x y t', ty, pos, aft, none⟩ :: rest) F :=
  Wq.val (fun w _ => by simp [execOp, hx, hy, run_eqGuard_int, binOp, Op.shift, Int.not_lt.2 h0]) c
theorem Wq.convI {k' : IntKind} {u : TypeDesc} [hu : Und P t' (.int k')] [ht : Und P t u] (hx : ev n F x = .int k a)
    (c : Wq P n ds C K ops rest (upd F d (.int k' (k'.wrap a)))) : Wq P n ds C K ops (⟨some d, .convert t t' x, ty, pos, aft, none⟩ :: rest) F := by
  refine Wq.val (fun w _ => ?_) c
  simp only [execOp, hx, Sem.run_bind, convert, run_underlying ht.h, run_underlying hu.h, Result.andThen_ok, Conv.intToInt, Sem.run_pure]
end arith
theorem Wq.lenS {x : Operand} {t e : TypeId} {a : Option Addr} {l cap : Nat} [ht : Und P t (.slice e)] (hx : ev n F x = .slice a l cap)
    (c : Wq P n ds C K ops rest (upd F d (vi l))) : Wq P n ds C K ops (⟨some d, .call { callee := .builtin .len, args := #[x], argTypes := #[t] }, ty, pos, aft, none⟩ :: rest) F :=
  Wq.val (fun w _ => by simp only [execOp, resolve, Sem.run_bind, Sem.run_pure, Result.andThen_ok, invoke, builtin, List.map_toArray, List.map_cons, List.map_nil, hx, run_lenS ht.h]) c

theorem Wq.lenStr {x : Operand} {t : TypeId} {l : List UInt8} [ht : Und P t .string] (hx : ev n F x = vs l)
    (c : Wq P n ds C K ops rest (upd F d (vi l.length))) : Wq P n ds C K ops (⟨some d, .call { callee := .builtin .len, args := #[x], argTypes := #[t] }, ty, pos, aft, none⟩ :: rest) F :=
  Wq.val (fun w _ => by simp only [execOp, resolve, Sem.run_bind, Sem.run_pure, Result.andThen_ok, invoke, builtin, List.map_toArray, List.map_cons, List.map_nil, hx, run_lenStr ht.h]) c
section
variable {α : Type} {R : Rel α} {Pb : Nat → Prop} {xs : List α} {x i : Operand} {t e e' : TypeId} {bytes : Nat} {z v : Value} {k : IntKind} {j : Int} {y : α}
/-- xs[j], plain. -/
theorem Wq.idxLoadV {f : α → Value} [ht : Und P t (.slice e)] [he : ElT P e 1 bytes false z] (h : ∀ w, C w → RdS (one f) 1 Pb w v xs) (hx : ev n F x = v) (hi : ev n F i = .int k j) (h0 : 0 ≤ j) (hy : xs[j.toNat]? = some y) (hd : Nat.blt d1 n = true) (hee : e' = e) (hC : ∃ w, C w)
    (c : ∀ p, Wq P n ds C K ops rest (upd (upd F d1 p) d2 (f y))) :
    Wq P n ds C K ops (⟨some d1, .indexAddr t x i, ty1, pos1, aft1, none⟩ :: ⟨some d2, .load e' (.tmp d1), ty2, pos2, aft2, none⟩ :: rest) F := by
  subst hee
  obtain ⟨w0, hw0⟩ := hC
  obtain ⟨b, off, cap, rfl, hlt, _⟩ := (h w0 hw0).cells hy
  have hc : ∀ w, C w → w.cell? ⟨b, off + j.toNat * 1, none⟩ = some (f y) := by
    intro w hw
    obtain ⟨b', off', cap', e1, _, cs, hl, hR, hc⟩ := (h w hw).cells hy
    cases e1
    have := hc 0 (f y) (by rw [hR]; rfl)
    simpa using this
  refine Wq.val (v := .pointer (some ((⟨b, off, none⟩ : Addr).add (j.toNat * 1)))) (fun w _ => ?_) (Wq.val (v := f y) (fun w hw => ?_) (c _))
  · simp only [execOp, hx, hi, Sem.run_bind, run_indexAt ht.h he h0 (by omega : j < xs.length), Result.andThen_ok, Sem.run_pure]
  · simp only [execOp, ev, hd, upd_eq, if_pos, Sem.run_bind]
    rw [addr_add, run_load1 he (hc w hw)]; rfl
end
end
attribute [irreducible] Wq
end Go.Proofs.YtpnpllghabbhlaaGreatDoor.Wk

namespace Go.Proofs.YtpnpllghabbhlaaGreatDoor.Wk
open Go Go.RowKit

/-- Block b is a variable (or a row) of the cells cs, of type T; no cell of it is frozen. -/
def Bk (w : World) (b : Nat) (T : TypeId) (cs : List Value) : Prop := w.heap[b]? = some (.cells cs.toArray T (0, 0))
section
variable {w w' : World} {b : Nat} {T : TypeId} {cs : List Value} {M Pb : Nat → Prop}
theorem Bk.lt (h : Bk w b T cs) : b < w.heap.size := heap_lt h
theorem Bk.keep (h : Bk w b T cs) (hk : Keep Pb w w') (hb : Pb b) : Bk w' b T cs := (hk b hb h.lt).trans h
theorem Bk.chg (h : Bk w b T cs) (hc : Chg M w w') (hb : ¬ M b) : Bk w' b T cs := (hc.block b h.lt hb).trans h
theorem Bk.cell (h : Bk w b T cs) {o : Nat} {u : Value} (hu : cs[o]? = some u) : w.cell? ⟨b, o, none⟩ = some u := by
  unfold Bk at h
  simp only [World.cell?, h]
  simpa using hu
theorem Bk.frozen (h : Bk w b T cs) (o : Nat) : w.frozen? ⟨b, o, none⟩ = false := by
  unfold Bk at h
  simp only [World.frozen?, h]
  simp
theorem Bk.shape {w : World} {b : Nat} {T : TypeId} {cs : List Value} (h : Bk w b T cs) : w.shape? b = some (T, cs.length) := by
  unfold Bk at h; simp [World.shape?, h]

theorem Bk.store (h : Bk w b T cs) (o : Nat) (u : Value) : Bk (w.setCell ⟨b, o, none⟩ u) b T (cs.set o u) := by
  unfold Bk at h ⊢
  rw [heap_setCell_same w b o _ T u h]
  simp
theorem Chg.store (b o : Nat) (u : Value) : Chg (fun k => k = b) w (w.setCell ⟨b, o, none⟩ u) :=
  ⟨rfl, rfl, rfl, by simp [World.setCell], fun k _ hn => heap_setCell_other w ⟨b, o, none⟩ k u hn⟩
end

section
variable {P : Program} {n : Nat} {ds : List Deferred} {Q : Po} {F : Fr} {w w' : World} {ops rest : List Oper} {d d1 d2 : Nat} {ty ty1 ty2 : TypeId} {pos pos1 pos2 : String} {aft aft1 aft2 : Array Edge}
theorem Wl.nilP {x : Operand} {a : Addr} (hx : ev n F x = .pointer (some a)) (c : Wl P n ds Q ops rest (upd F d (.pointer (some a))) w) :
    Wl P n ds Q ops (⟨some d, .nilCheck x, ty, pos, aft, none⟩ :: rest) F w :=
  Wl.val (by simp only [execOp, hx, Sem.run_pure]) c
theorem Wl.nilF {x : Operand} {g : FuncId} {first cap : Array Value} (hx : ev n F x = .func (.func g) first cap) (c : Wl P n ds Q ops rest (upd F d (.func (.func g) first cap)) w) :
    Wl P n ds Q ops (⟨some d, .nilCheck x, ty, pos, aft, none⟩ :: rest) F w :=
  Wl.val (by simp only [execOp, hx, Sem.run_pure]) c
theorem run_fieldAt {T i off fty : Nat} {sz bytes : Nat} {agg : Bool} {z : Value} {b o : Nat} (hf : Fld P T i off fty) (he : ElT P fty sz bytes agg z) (hz : sz ≠ 0) :
    (Instr.fieldAt T (.pointer (some ⟨b, o, none⟩)) i).run P w = .ok (.pointer (some ⟨b, o + off, none⟩)) w := by
  obtain ⟨fs, f, h1, h2, rfl, rfl⟩ := hf.ex
  simp [Instr.fieldAt, run_underlying h1, h2, Instr.sureAddr, fieldPlace, he.sizeOf, hz, addr_add]
theorem Wl.fieldAddr {x : Operand} {T i off fty : Nat} {sz bytes : Nat} {agg : Bool} {z : Value} {b o : Nat} [hf : Fld P T i off fty] [he : ElT P fty sz bytes agg z] (hx : ev n F x = .pointer (some ⟨b, o, none⟩)) (hz : Nat.beq sz 0 = false)
    (c : Wl P n ds Q ops rest (upd F d (.pointer (some ⟨b, o + off, none⟩))) w) : Wl P n ds Q ops (⟨some d, .fieldAddr T x i, ty, pos, aft, none⟩ :: rest) F w :=
  Wl.val (by simp only [execOp, hx, Sem.run_bind, run_fieldAt hf he (Nat.ne_of_beq_eq_false hz), Result.andThen_ok, Sem.run_pure]) c
theorem Wl.load1 {x : Operand} {e bytes : Nat} {z u : Value} {b o : Nat} [he : ElT P e 1 bytes false z] (hx : ev n F x = .pointer (some ⟨b, o, none⟩)) (hc : w.cell? ⟨b, o, none⟩ = some u)
    (c : Wl P n ds Q ops rest (upd F d u) w) : Wl P n ds Q ops (⟨some d, .load e x, ty, pos, aft, none⟩ :: rest) F w :=
  Wl.val (by simp only [execOp, hx, Sem.run_bind, run_load1 he hc, Result.andThen_ok, Sem.run_pure]) c
theorem run_storeO {e bytes : Nat} {agg : Bool} {z u : Value} {b o : Nat} {T : TypeId} {cs : List Value} (he : ElT P e 1 bytes agg z) (h : Bk w b T cs) (ho : o < cs.length) (hu : u.oneCell' = true) :
    (Instr.storeAt e (.pointer (some ⟨b, o, none⟩)) u).run P w = .ok () (w.setCell ⟨b, o, none⟩ u) := by
  have huc : u.cells = #[u] := by cases u <;> simp_all [Value.cells, Value.oneCell']
  simp only [Instr.storeAt, Instr.sureAddr, storeVar, Sem.run_bind, Sem.run_pure, Result.andThen_ok, he.sizeOf, huc]
  simp [storeCells, run_store P w _ _ _ hu, addr_add, h.cell (List.getElem?_eq_getElem ho), h.frozen]
theorem Wl.store1 {x y : Operand} {e bytes : Nat} {agg : Bool} {z u : Value} {b o : Nat} {T : TypeId} {cs : List Value} [he : ElT P e 1 bytes agg z] (h : Bk w b T cs) (hx : ev n F x = .pointer (some ⟨b, o, none⟩)) (ho : o < cs.length) (hy : ev n F y = u) (hu : u.oneCell' = true)
    (c : ∀ w', Bk w' b T (cs.set o u) → Chg (fun k => k = b) w w' → Wl P n ds Q ops rest F w') : Wl P n ds Q ops (⟨none, .store e x y, ty, pos, aft, none⟩ :: rest) F w :=
  Wl.unit (by simp only [execOp, hx, hy, Sem.run_bind, run_storeO he h ho hu, Result.andThen_ok, Sem.run_pure]) (c _ (h.store o u) (Chg.store b o u))
/-- 'var x T', or 'new(T)': a new variable, zero. -/
theorem Wl.alloc {e sz bytes : Nat} {agg : Bool} {z : Value} [he : ElT P e sz bytes agg z] (c : ∀ w', Bk w' w.heap.size e z.cells.toList → New w w' → w'.heap.size = w.heap.size + 1 → Wl P n ds Q ops rest (upd F d (.pointer (some ⟨w.heap.size, 0, none⟩))) w') :
    Wl P n ds Q ops (⟨some d, .alloc e, ty, pos, aft, none⟩ :: rest) F w := by
  refine Wl.val (w' := w.alloc (.cells z.cells e)) ?_ (c _ (by simpa [Bk] using heap_alloc_new w (.cells z.cells e)) (Chg.alloc _ _ _) (by simp))
  simp [execOp, Instr.alloc, he.zeroValue, newVar, newRow]
/-- A new variable that holds x. -/
theorem Wl.box {x : Operand} {e : TypeId} {u : Value} (hx : ev n F x = u) (c : ∀ w', Bk w' w.heap.size e u.cells.toList → New w w' → w'.heap.size = w.heap.size + 1 → Wl P n ds Q ops rest (upd F d (.pointer (some ⟨w.heap.size, 0, none⟩))) w') :
    Wl P n ds Q ops (⟨some d, .box e x, ty, pos, aft, none⟩ :: rest) F w := by
  refine Wl.val (w' := w.alloc (.cells u.cells e)) ?_ (c _ (by simpa [Bk] using heap_alloc_new w (.cells u.cells e)) (Chg.alloc _ _ _) (by simp))
  simp [execOp, Instr.box, hx, newVar, newRow]
theorem und_pointee {t e : TypeId} (h : P.underlying t = some (.pointer e)) : P.underlying t = some (.pointer (P.pointee t)) := by simp [Program.pointee, h]
/-- Pointers compared with nil. -/
theorem run_eqGuard_ptr {op : BinOp} {t : TypeId} {x y : Operand} {a b : Option Addr} : (eqGuard op t x y (.pointer a) (.pointer b)).run P w = .ok () w := by
  unfold eqGuard; split <;> simp
theorem Wl.peqNil {x y : Operand} {t t' e : TypeId} {a : Option Addr} [ht : Und P t (.pointer e)] (hx : ev n F x = .pointer a) (hy : ev n F y = .pointer none) (c : Wl P n ds Q ops rest (upd F d (.bool a.isNone)) w) :
    Wl P n ds Q ops (⟨some d, .binOp .eql t x y t', ty, pos, aft, none⟩ :: rest) F w := by
  refine Wl.val ?_ c
  simp only [execOp, hx, hy, Sem.run_bind, run_eqGuard_ptr, Result.andThen_ok, run_eql_pointer_nil w t a (und_pointee ht.h), Sem.run_pure]
theorem Wl.pneNil {x y : Operand} {t t' e : TypeId} {a : Option Addr} [ht : Und P t (.pointer e)] (hx : ev n F x = .pointer a) (hy : ev n F y = .pointer none) (c : Wl P n ds Q ops rest (upd F d (.bool !a.isNone)) w) :
    Wl P n ds Q ops (⟨some d, .binOp .neq t x y t', ty, pos, aft, none⟩ :: rest) F w := by
  refine Wl.val ?_ c
  simp only [execOp, hx, hy, Sem.run_bind, run_eqGuard_ptr, Result.andThen_ok, run_neq_pointer_nil w t a (und_pointee ht.h), Sem.run_pure]
theorem Wl.pneSame {x y : Operand} {t t' e : TypeId} {a : Addr} {sz bytes : Nat} {agg : Bool} {z : Value} [ht : Und P t (.pointer e)] [he : ElT P e sz bytes agg z] (hx : ev n F x = .pointer (some a)) (hy : ev n F y = .pointer (some a)) (c : Wl P n ds Q ops rest (upd F d (.bool false)) w) :
    Wl P n ds Q ops (⟨some d, .binOp .neq t x y t', ty, pos, aft, none⟩ :: rest) F w := by
  obtain ⟨i, hi, _⟩ := he.inf
  refine Wl.val ?_ c
  simp only [execOp, hx, hy, Sem.run_bind, run_eqGuard_ptr, Result.andThen_ok, Lib.run_neq_ptr_same w a ht.h hi, Sem.run_pure]
theorem Wl.convR {x : Operand} {t t' : TypeId} {v u : Value} (hx : ev n F x = v) (hr : (convert t t' v).run P w = .ok u w') (c : Wl P n ds Q ops rest (upd F d u) w') :
    Wl P n ds Q ops (⟨some d, .convert t t' x, ty, pos, aft, none⟩ :: rest) F w := Wl.val (by simp only [execOp, hx, Sem.run_bind, hr, Result.andThen_ok, Sem.run_pure]) c
/-- A function without a body that yields a value. -/
theorem Wl.extern {args : List Operand} {ts : Array TypeId} {f : FuncId} {vs : List Value} {v : Value}
    (hr : (callFunc f vs.toArray).run P w = .ok (.value v) w') (ha : args.map (ev n F) = vs) (c : Wl P n ds Q ops rest (upd F d v) w') :
    Wl P n ds Q ops (⟨some d, .call { callee := .value (.func f), args := args.toArray, argTypes := ts }, ty, pos, aft, none⟩ :: rest) F w := by
  refine Wl.val ?_ c
  subst ha
  have : #[] ++ (List.map (ev n F) args).toArray ++ #[] = (List.map (ev n F) args).toArray := by simp
  simp only [execOp, resolve, ev, Deferred.ofValue, Sem.run_bind, Sem.run_pure, Result.andThen_ok, invoke, List.map_toArray]
  rw [this, hr]

/-- &xs[j], an element of one cell, plain. -/
theorem Wl.idxAddrV {α : Type} {f : α → Value} {Pb : Nat → Prop} {xs : List α} {x i : Operand} {t e bytes : Nat} {z v : Value} {k : IntKind} {j : Int} {y : α}
    [ht : Und P t (.slice e)] [he : ElT P e 1 bytes false z] (h : RdS (one f) 1 Pb w v xs) (hx : ev n F x = v) (hi : ev n F i = .int k j) (h0 : 0 ≤ j) (hy : xs[j.toNat]? = some y)
    (c : ∀ b o, w.cell? ⟨b, o, none⟩ = some (f y) → Wl P n ds Q ops rest (upd F d (.pointer (some ⟨b, o, none⟩))) w) :
    Wl P n ds Q ops (⟨some d, .indexAddr t x i, ty, pos, aft, none⟩ :: rest) F w := by
  obtain ⟨b, off, cap, rfl, hlt, cs, hl, hR, hc⟩ := h.cells hy
  have hc0 := hc 0 (f y) (by rw [hR]; rfl)
  refine Wl.val (w' := w) (v := .pointer (some ((⟨b, off, none⟩ : Addr).add (j.toNat * 1)))) ?_ ?_
  · simp only [execOp, hx, hi, Sem.run_bind, run_indexAt ht.h he h0 (by omega : j < xs.length), Result.andThen_ok, Sem.run_pure]
  · rw [addr_add]; exact c _ _ (by simpa using hc0)

/-! Slices of slices, of strings. -/
theorem run_sliceBounds {isS : Bool} {l cap : Nat} {lo hi : Option Value} {a b : Nat} (hlo : lo = none ∧ a = 0 ∨ ∃ k, lo = some (.int k a)) (hhi : hi = none ∧ b = l ∨ ∃ k, hi = some (.int k b)) (hab : a ≤ b) (hb : b ≤ cap) :
    (Instr.sliceBounds isS l cap lo hi none).run P w = .ok (a, b, cap) w := by
  have h1 : ∀ (k : IntKind) (m : Nat) (c : BoundsCode) (q : Nat), q ≤ m → (Instr.sliceBound (.int k (q : Int)) m c).run P w = .ok q w := by
    intro k m c q hq
    have : (0 : Int) ≤ q ∧ (q : Int) ≤ m := by omega
    simp [Instr.sliceBound, asIntOf, hq]
  rcases hlo with ⟨rfl, rfl⟩ | ⟨k, rfl⟩ <;> rcases hhi with ⟨rfl, rfl⟩ | ⟨k', rfl⟩ <;> simp [Instr.sliceBounds, h1, hab, hb]
theorem run_sliceS {t e : TypeId} {sz bytes : Nat} {agg : Bool} {z : Value} {p : Option Addr} {l cap : Nat} {lo hi : Option Value} {a b : Nat} (ht : P.underlying t = some (.slice e)) (he : ElT P e sz bytes agg z)
    (hlo : lo = none ∧ a = 0 ∨ ∃ k, lo = some (.int k a)) (hhi : hi = none ∧ b = l ∨ ∃ k, hi = some (.int k b)) (hab : a ≤ b) (hb : b ≤ cap) :
    (Instr.sliceAt t (.slice p l cap) lo hi none).run P w = .ok (.slice (if cap = a then p else p.map (·.add (a * sz))) (b - a) (cap - a)) w := by
  simp only [Instr.sliceAt, Sem.run_bind, run_underlying ht, Result.andThen_ok, Instr.slice, run_sliceBounds hlo hhi hab hb, he.sizeOf, Sem.run_pure]
theorem RdS.sub {α : Type} {R : Rel α} {sz : Nat} {Pb : Nat → Prop} {w : World} {p : Option Addr} {l cap : Nat} {xs : List α} (h : RdS R sz Pb w (.slice p l cap) xs) {a b : Nat} (hab : a ≤ b) (hb : b ≤ xs.length) :
    RdS R sz Pb w (.slice (if cap = a then p else p.map (·.add (a * sz))) (b - a) (cap - a)) ((xs.take b).drop a) := by
  have h1 := h.take hb rfl
  cases p with
  | none =>
    rcases h with ⟨e, rfl⟩ | ⟨_, _, e, _⟩ | ⟨_, _, _, _, _, _, e, _⟩
    · cases e
      simp only [List.length_nil, Nat.le_zero_eq] at hb
      subst hb
      obtain rfl : a = 0 := by omega
      exact .inl ⟨by simp, by simp⟩
    · cases e
    · cases e
  | some q =>
    have hl : (xs.take b).length = b := by simp; omega
    have := h1.drop (m := a) (by omega) rfl (if cap = a then q else q.add (a * sz)) (by
      split
      · rename_i e; exact .inr ⟨e.symm, rfl⟩
      · exact .inl rfl)
    have e : (if cap = a then some q else Option.map (fun x => x.add (a * sz)) (some q)) = some (if cap = a then q else q.add (a * sz)) := by split <;> rfl
    rw [e]
    exact this
section
variable {α : Type} {R : Rel α} {Pb : Nat → Prop} {xs : List α} {x lo hi : Operand} {t e : TypeId} {sz bytes : Nat} {agg : Bool} {z v : Value} {k k' : IntKind} {a b : Int}
/-- x[:b], x[a:], x[a:b]. -/
theorem Wl.sliceTo [ht : Und P t (.slice e)] [he : ElT P e sz bytes agg z] (h : RdS R sz Pb w v xs) (hx : ev n F x = v) (hh : ev n F hi = .int k b) (h0 : 0 ≤ b) (h1 : b ≤ xs.length)
    (c : ∀ v', RdS R sz Pb w v' (xs.take b.toNat) → Wl P n ds Q ops rest (upd F d v') w) : Wl P n ds Q ops (⟨some d, .slice t x none (some hi) none, ty, pos, aft, none⟩ :: rest) F w := by
  obtain ⟨p, cap, rfl, hc, _⟩ := h.form
  obtain ⟨b, rfl⟩ := Int.eq_ofNat_of_zero_le h0
  have := run_sliceS (P := P) (w := w) (p := p) (l := xs.length) (lo := none) (hi := some (.int k b)) (a := 0) (b := b) ht.h he (.inl ⟨rfl, rfl⟩) (.inr ⟨k, rfl⟩) (Nat.zero_le _) (by omega : b ≤ cap)
  have hr := h.sub (a := 0) (b := b) (Nat.zero_le _) (by omega)
  rw [List.drop_zero] at hr
  refine Wl.val (w' := w) ?_ (c _ hr)
  simp only [execOp, hx, hh, Option.map_none, Option.map_some, Sem.run_bind, this, Result.andThen_ok, Sem.run_pure]
theorem Wl.sliceFrom [ht : Und P t (.slice e)] [he : ElT P e sz bytes agg z] (h : RdS R sz Pb w v xs) (hx : ev n F x = v) (hl : ev n F lo = .int k a) (h0 : 0 ≤ a) (h1 : a ≤ xs.length)
    (c : ∀ v', RdS R sz Pb w v' (xs.drop a.toNat) → Wl P n ds Q ops rest (upd F d v') w) : Wl P n ds Q ops (⟨some d, .slice t x (some lo) none none, ty, pos, aft, none⟩ :: rest) F w := by
  obtain ⟨p, cap, rfl, hc, _⟩ := h.form
  obtain ⟨a, rfl⟩ := Int.eq_ofNat_of_zero_le h0
  have := run_sliceS (P := P) (w := w) (p := p) (l := xs.length) (lo := some (.int k a)) (hi := none) (a := a) (b := xs.length) ht.h he (.inr ⟨k, rfl⟩) (.inl ⟨rfl, rfl⟩) (by omega) (by omega : xs.length ≤ cap)
  refine Wl.val (w' := w) ?_ (c _ (by simpa using h.sub (a := a) (b := xs.length) (by omega) (Nat.le_refl _)))
  simp only [execOp, hx, hl, Option.map_none, Option.map_some, Sem.run_bind, this, Result.andThen_ok, Sem.run_pure]
theorem Wl.sliceBoth [ht : Und P t (.slice e)] [he : ElT P e sz bytes agg z] (h : RdS R sz Pb w v xs) (hx : ev n F x = v) (hl : ev n F lo = .int k a) (hh : ev n F hi = .int k' b) (h0 : 0 ≤ a) (h1 : a ≤ b) (h2 : b ≤ xs.length)
    (c : ∀ v', RdS R sz Pb w v' ((xs.take b.toNat).drop a.toNat) → Wl P n ds Q ops rest (upd F d v') w) : Wl P n ds Q ops (⟨some d, .slice t x (some lo) (some hi) none, ty, pos, aft, none⟩ :: rest) F w := by
  obtain ⟨p, cap, rfl, hc, _⟩ := h.form
  obtain ⟨a, rfl⟩ := Int.eq_ofNat_of_zero_le h0
  obtain ⟨b, rfl⟩ := Int.eq_ofNat_of_zero_le (Int.le_trans h0 h1)
  have := run_sliceS (P := P) (w := w) (p := p) (l := xs.length) (lo := some (.int k a)) (hi := some (.int k' b)) (a := a) (b := b) ht.h he (.inr ⟨k, rfl⟩) (.inr ⟨k', rfl⟩) (by omega) (by omega : b ≤ cap)
  refine Wl.val (w' := w) ?_ (c _ (by simpa using h.sub (a := a) (b := b) (by omega) (by omega)))
  simp only [execOp, hx, hl, hh, Option.map_none, Option.map_some, Sem.run_bind, this, Result.andThen_ok, Sem.run_pure]
end
section
variable {x lo hi : Operand} {t : TypeId} {k k' : IntKind} {a b : Int} {l : List UInt8}
theorem run_sliceStr {lo hi : Option Value} {a b : Nat} (ht : P.underlying t = some .string) (hlo : lo = none ∧ a = 0 ∨ ∃ k, lo = some (.int k a)) (hhi : hi = none ∧ b = l.length ∨ ∃ k, hi = some (.int k b)) (hab : a ≤ b) (hb : b ≤ l.length) :
    (Instr.sliceAt t (vs l) lo hi none).run P w = .ok (vs ((l.take b).drop a)) w := by
  have hs : (⟨l.toArray⟩ : ByteArray).size = l.length := by simp [ByteArray.size]
  simp only [Instr.sliceAt, Sem.run_bind, run_underlying ht, Result.andThen_ok, Instr.slice, hs, run_sliceBounds hlo hhi hab hb, Option.isSome_none, Bool.false_eq_true, if_false, Sem.run_pure]
  rw [ByteArray.extract_mk, List.drop_take]
theorem Wl.strTo [ht : Und P t .string] (hx : ev n F x = vs l) (hh : ev n F hi = .int k b) (h0 : 0 ≤ b) (h1 : b ≤ l.length)
    (c : Wl P n ds Q ops rest (upd F d (vs (l.take b.toNat))) w) : Wl P n ds Q ops (⟨some d, .slice t x none (some hi) none, ty, pos, aft, none⟩ :: rest) F w := by
  obtain ⟨b, rfl⟩ := Int.eq_ofNat_of_zero_le h0
  have := run_sliceStr (P := P) (w := w) (l := l) (lo := none) (hi := some (.int k b)) (a := 0) (b := b) ht.h (.inl ⟨rfl, rfl⟩) (.inr ⟨k, rfl⟩) (Nat.zero_le _) (by omega)
  refine Wl.val (w' := w) ?_ c
  simp only [execOp, hx, hh, Option.map_none, Option.map_some, Sem.run_bind, this, Result.andThen_ok, Sem.run_pure, List.drop_zero, Int.toNat_natCast]
theorem Wl.strFrom [ht : Und P t .string] (hx : ev n F x = vs l) (hl : ev n F lo = .int k a) (h0 : 0 ≤ a) (h1 : a ≤ l.length)
    (c : Wl P n ds Q ops rest (upd F d (vs (l.drop a.toNat))) w) : Wl P n ds Q ops (⟨some d, .slice t x (some lo) none none, ty, pos, aft, none⟩ :: rest) F w := by
  obtain ⟨a, rfl⟩ := Int.eq_ofNat_of_zero_le h0
  have := run_sliceStr (P := P) (w := w) (l := l) (lo := some (.int k a)) (hi := none) (a := a) (b := l.length) ht.h (.inr ⟨k, rfl⟩) (.inl ⟨rfl, rfl⟩) (by omega) (Nat.le_refl _)
  refine Wl.val (w' := w) ?_ c
  simp only [execOp, hx, hl, Option.map_none, Option.map_some, Sem.run_bind, this, Result.andThen_ok, Sem.run_pure, List.take_length, Int.toNat_natCast]
theorem Wl.strBoth [ht : Und P t .string] (hx : ev n F x = vs l) (hl : ev n F lo = .int k a) (hh : ev n F hi = .int k' b) (h0 : 0 ≤ a) (h1 : a ≤ b) (h2 : b ≤ l.length)
    (c : Wl P n ds Q ops rest (upd F d (vs ((l.take b.toNat).drop a.toNat))) w) : Wl P n ds Q ops (⟨some d, .slice t x (some lo) (some hi) none, ty, pos, aft, none⟩ :: rest) F w := by
  obtain ⟨a, rfl⟩ := Int.eq_ofNat_of_zero_le h0
  obtain ⟨b, rfl⟩ := Int.eq_ofNat_of_zero_le (Int.le_trans h0 h1)
  have := run_sliceStr (P := P) (w := w) (l := l) (lo := some (.int k a)) (hi := some (.int k' b)) (a := a) (b := b) ht.h (.inr ⟨k, rfl⟩) (.inr ⟨k', rfl⟩) (by omega) (by omega)
  refine Wl.val (w' := w) ?_ c
  simp only [execOp, hx, hl, hh, Option.map_none, Option.map_some, Sem.run_bind, this, Result.andThen_ok, Sem.run_pure, Int.toNat_natCast]
end
end
end Go.Proofs.YtpnpllghabbhlaaGreatDoor.Wk

namespace Go.Proofs.YtpnpllghabbhlaaGreatDoor.Wk
open Go Go.RowKit

abbrev by8 : UInt8 → Value := fun b => .int .u8 b.toNat
theorem goodR8 : GoodR (one by8) 1 := good_one _ fun _ => rfl
theorem strCells_mk (l : List UInt8) : Lib.strCells ⟨l.toArray⟩ = l.map by8 := by
  simp [Lib.strCells]
theorem OwnS.of1 {α : Type} {f : α → Value} {e : TypeId} {Pb Pe : Nat → Prop} {w : World} {v : Value} {xs : List α} {m : Nat} (hm : m = xs.length) (h : OwnC Pb w e 1 v m (xs.map f)) : OwnS (one f) e 1 Pb Pe w v xs := by
  subst hm
  refine ⟨_, h, fun i x hx => ?_⟩
  have hi : i < (xs.map f).length := by simpa using (List.getElem?_eq_some_iff.1 hx).1
  simp only [one, Nat.mul_one]
  rw [List.drop_eq_getElem_cons hi]
  have := (List.getElem?_eq_some_iff.1 hx).2
  simp [this]
theorem OwnS.to1 {α : Type} {f : α → Value} {e : TypeId} {Pb Pe : Nat → Prop} {w : World} {v : Value} {xs : List α} (h : OwnS (one f) e 1 Pb Pe w v xs) : OwnC Pb w e 1 v xs.length (xs.map f) := by
  obtain ⟨cs, hoc, he⟩ := h
  have hl : cs.length = xs.length := by simpa using hoc.1
  have : cs = xs.map f := by
    apply List.ext_getElem (by simpa using hl)
    intro i h1 h2
    have hx : xs[i]? = some xs[i] := List.getElem?_eq_getElem (by omega)
    have := he i _ hx
    simp only [one, Nat.mul_one] at this
    rw [List.drop_eq_getElem_cons h1, List.take_succ_cons, List.take_zero] at this
    rw [(List.cons.inj this).1]; simp
  rw [← this]; exact hoc
section
variable {P : Program} {w : World}
theorem run_append_cs (t u ty e : TypeId) {bytes : Nat} {agg : Bool} (ht : P.underlying t = some (.slice e)) (hu : P.underlying u = some .string) (he : ElT P e 1 bytes agg (.int .u8 0))
    {Pb : Nat → Prop} {v : Value} {m : Nat} {cs : List Value} (hown : OwnC Pb w e 1 v m cs) (l : List UInt8)
    (h63 : m + l.length ≤ maxLen) (hby : (m + l.length) * bytes ≤ 140737488355328) :
    ∃ v' w', (Builtin.append_ #[t, u] ty #[v, vs l]).run P w = .ok v' w' ∧ OwnC (fun b => Pb b ∨ w.heap.size ≤ b) w' e 1 v' (m + l.length) (cs ++ l.map by8) ∧ Chg (fun b => v.ownBlock = some b) w w' ∧
      (v'.ownBlock = v.ownBlock ∨ ∀ b, v'.ownBlock = some b → w.heap.size ≤ b) := by
  obtain ⟨i, hi, hsz', hby', hz'⟩ := he.inf
  subst hby'
  have hsmall : m + l.length ≤ 9223372036854775807 := by simp only [maxLen] at h63; omega
  have hss : (⟨l.toArray⟩ : ByteArray).size = l.length := by simp [ByteArray.size]
  have hlm : cs.length = m := by simpa using hown.1
  have hlen : (cs ++ l.map by8).length = (m + l.length) * 1 := by simp [hlm]
  have grown : ∀ (old : Nat), old < m + l.length →
      OwnC (fun b => Pb b ∨ w.heap.size ≤ b) (w.drew.alloc (.cells (cs.toArray ++ (l.map by8).toArray ++ Builtin.zeroCells #[.int .u8 0] (grownCap w (m + l.length) old e - (m + l.length))) e)) e 1
        (.slice (some ⟨w.heap.size, 0, none⟩) (m + l.length) (grownCap w (m + l.length) old e)) (m + l.length) (cs ++ l.map by8) := by
    intro old ho
    have hge := grownCap_ge w (m + l.length) old e
    have hcm : grownCap w (m + l.length) old e ≤ maxLen := grownCap_le_maxLen w (m + l.length) old e h63
    refine ⟨hlen, .inr ⟨w.heap.size, _, _, rfl, .inr (Nat.le_refl _), heap_alloc_new w.drew _, hge, hcm, ?_, ?_⟩⟩
    · simp only [Array.size_append, List.size_toArray, size_zeroCells, hlm, List.length_map]
      simp
      omega
    · simp only [Array.toList_append, List.append_assoc]
      rw [← List.append_assoc, ← hlen]
      exact List.take_left
  have chg : ∀ M o, Chg M w (w.drew.alloc o) := fun M o => ⟨rfl, rfl, rfl, by simp, fun k hk _ => World.heap_old w.drew o hk⟩
  rcases hown.2 with ⟨rfl, rfl⟩ | ⟨g, cap, cur, rfl, hbg, hg, hnc, hcm, hcs, htake⟩
  · have hx : cs = [] := List.eq_nil_of_length_eq_zero hlm
    subst hx
    by_cases hm : l = []
    · subst hm
      refine ⟨.slice none 0 0, w, ?_, ⟨by simp, .inl ⟨rfl, rfl⟩⟩, Chg.refl _ _, .inl rfl⟩
      have : (⟨#[]⟩ : ByteArray).size = 0 := rfl
      simp [Builtin.append_, run_underlying ht, run_underlying hu, sizeOf, typeInfo, hi, Builtin.lenOf, Builtin.firstCells, this]
    · have hp : 0 < l.length := List.length_pos_iff.2 hm
      have hr := run_append_nil_string (P := P) w t u ty e i (.int .u8 0) ht hu hi hz' ⟨l.toArray⟩ (by omega) (by omega) (by rw [hss]; have hb := hby; simp only [Nat.zero_add] at hb; omega)
      have hgr := grown 0 (by omega)
      simp only [hss] at hr
      have e1 : (⟨l.toArray⟩ : ByteArray).data.map (fun b => Value.int .u8 b.toNat) = (l.map by8).toArray := by simp
      simp only [Nat.zero_add, List.nil_append] at hgr ⊢
      refine ⟨_, _, hr, ?_, chg _ _, .inr fun b hb => by simp only [Value.ownBlock, Option.some.injEq] at hb; omega⟩
      rw [e1]
      have e2 : (Value.int .u8 0).cells = #[.int .u8 0] := rfl
      rw [e2]
      simpa [by8] using hgr
  · by_cases hroom : m + l.length ≤ cap
    · have hr := Lib.run_append_room_string (P := P) w t u ty e i ht hu hi hsz' g m cap cur hg ⟨l.toArray⟩ (by omega) (by omega)
      rw [hss, strCells_mk] at hr
      refine ⟨_, _, hr, ⟨hlen, .inr ⟨g, cap, _, rfl, .inl hbg, setRow_heap w g cur _ e _ hg, hroom, hcm, ?_, ?_⟩⟩, Chg.setRow rfl, .inl rfl⟩
      · simp only [List.size_toArray, List.length_append, List.length_take, List.length_drop, Array.length_toList, List.length_map]
        omega
      · simp only [Nat.mul_one] at htake ⊢
        rw [htake]
        have : (m + l.length) = (cs ++ l.map by8).length := by simp [hlm]
        rw [this]
        exact List.take_left
    · have holds : ∀ j u, cs[j]? = some u → w.cell? ((⟨g, 0, none⟩ : Addr).add j) = some u := by
        intro j u hu
        rw [addr_add, Nat.zero_add]
        simp only [World.cell?, hg]
        rw [← htake, List.getElem?_take] at hu
        split at hu
        · simpa using hu
        · cases hu
      have hr := Lib.run_append_grow_string (P := P) w t u ty e i (.int .u8 0) ht hu hi hz' ⟨g, 0, none⟩ m cap cs (by rw [hsz']; omega) holds ⟨l.toArray⟩ (by omega) (by omega) (growslice_fits (by omega) (by rw [hss]; exact hby))
      rw [hss, strCells_mk] at hr
      exact ⟨_, _, hr, grown cap (by omega), chg _ _, .inr fun b hb => by simp only [Value.ownBlock, Option.some.injEq] at hb; omega⟩
end
section
variable {Pb Pe : Nat → Prop} {xs : List UInt8}
variable {P : Program} {n : Nat} {ds : List Deferred} {Q : Po} {F : Fr} {w w' : World} {ops rest : List Oper} {d d1 d2 : Nat} {ty : TypeId} {pos : String} {aft : Array Edge}
/-- 'b = append(b, s...)'. -/
theorem Wl.appendStr {x s : Operand} {t u e : TypeId} {bytes : Nat} {agg : Bool} {v : Value} {l : List UInt8}
    (hown : OwnS (one by8) e 1 Pb Pe w v xs) [ht : Und P t (.slice e)] [hu : Und P u .string] [he : ElT P e 1 bytes agg (.int .u8 0)] (hs : ev n F s = v) (hx : ev n F x = vs l)
    (h63 : xs.length + l.length ≤ maxLen) (hby : (xs.length + l.length) * bytes ≤ 140737488355328)
    (c : ∀ v' w', OwnS (one by8) e 1 (fun b => Pb b ∨ w.heap.size ≤ b) Pe w' v' (xs ++ l) → Chg (fun b => v.ownBlock = some b) w w' → (v'.ownBlock = v.ownBlock ∨ ∀ b, v'.ownBlock = some b → w.heap.size ≤ b) → Wl P n ds Q ops rest (upd F d v') w') :
    Wl P n ds Q ops (⟨some d, .call { callee := .builtin .append, args := #[s, x], argTypes := #[t, u] }, ty, pos, aft, none⟩ :: rest) F w := by
  obtain ⟨v', w', hr, g2, g3, g4⟩ := run_append_cs (P := P) (w := w) t u ty e ht.h hu.h he hown.to1 l h63 hby
  refine Wl.val ?_ (c v' w' (OwnS.of1 (m := xs.length + l.length) (by simp) (by simpa using g2)) g3 g4)
  simp only [execOp, resolve, invoke, builtin, Sem.run_bind, Sem.run_pure, Result.andThen_ok, List.map_toArray, List.map_cons, List.map_nil, hs, hx, hr]
end
end Go.Proofs.YtpnpllghabbhlaaGreatDoor.Wk

namespace Go.Proofs.YtpnpllghabbhlaaGreatDoor.Wk
open Go Go.RowKit

/-- Every edge leads to an operation ahead; each operation writes a slot. -/
def downOk (ops : List Oper) : Bool := (List.range ops.length).all fun i => match ops[i]? with
  | some o => o.dst.isSome && o.after.all fun e => e.on < i
  | none => true
/-- No two operations write one slot. -/
def dstOk (ops : List Oper) : Bool := (List.range ops.length).all fun i => (List.range ops.length).all fun j => i == j || ((ops[i]?).bind (·.dst)) != ((ops[j]?).bind (·.dst))
/-- Slot s still holds what it held when operation i runs: whoever writes it waits for i. -/
def freeFor (ops : List Oper) (i s : Nat) : Bool := ops.all fun o : Oper => o.dst != some s || o.after.any fun e : Edge => e.on == i && Region.binds .any e
def dstOf (ops : List Oper) (i : Nat) : Nat := (((ops[i]?).bind (·.dst))).getD 0
/-- What one operation must come to. -/
def Qone (Φ : Nat → Value → World → Prop) (w0 : World) (d i : Nat) (F : Fr) : Po := fun e F' w' => e = .normal ∧ ∃ v, F' = upd F d v ∧ New w0 w' ∧ Φ i v w'
theorem Qone.mk {Φ : Nat → Value → World → Prop} {w0 w' : World} {d i : Nat} {F : Fr} {v : Value} (h1 : New w0 w') (h2 : Φ i v w') : Qone Φ w0 d i F .normal (upd F d v) w' := ⟨rfl, v, rfl, h1, h2⟩

section
variable {P : Program} {n : Nat} {ds : List Deferred} {Q : Po} {F0 : Fr} {w0 : World} {ops : List Oper}

structure DrInv (ops : List Oper) (Φ : Nat → Value → World → Prop) (F0 : Fr) (wb : World) (listed : Array Bool) (F : Fr) (w : World) : Prop where
  size : listed.size = ops.length
  new : New wb w
  done : ∀ i : Nat, listed[i]? = some true → Φ i (F (dstOf ops i)) w
  rest : ∀ s : Nat, (∀ i : Nat, listed[i]? = some true → dstOf ops i ≠ s) → F s = F0 s
  clos : ∀ (i : Nat) (o : Oper), listed[i]? = some true → ops[i]? = some o → ∀ e ∈ o.after, Region.binds .any e = true → listed[e.on]? = some true

def unl (listed : Array Bool) : Nat := listed.toList.count false

theorem Wc.regionD {id : Nat} (Φ : Nat → Value → World → Prop) (hm : P.follows .mixedOrders = true) (h1 : downOk ops = true) (h2 : dstOk ops = true)
    (hst : ∀ i v w w', New w w' → Φ i v w → Φ i v w')
    (step : ∀ (i : Nat) (o : Oper), ops[i]? = some o → ∀ F w, New w0 w → (∀ j, (o.after.any fun e => e.on == j && Region.binds .any e) = true → Φ j (F (dstOf ops j)) w) → (∀ s, freeFor ops i s = true → F s = F0 s) →
      Wl P n ds (Qone Φ w (dstOf ops i) i F) ops [o] F w)
    (fin : ∀ F w, New w0 w → (∀ i, i < ops.length → Φ i (F (dstOf ops i)) w) → (∀ s, (∀ i, i < ops.length → dstOf ops i ≠ s) → F s = F0 s) → Q .normal F w) :
    Wc P n ds Q (.region id ops.toArray true) F0 w0 := by
  obtain ⟨ops', rfl⟩ : ∃ l, l = ops := ⟨_, rfl⟩
  have hdst : ∀ i o, ops'[i]? = some o → o.dst = some (dstOf ops' i) ∧ ∀ e ∈ o.after, e.on < i := by
    intro i o ho
    have hi : i < ops'.length := (List.getElem?_eq_some_iff.1 ho).1
    have := List.all_eq_true.1 h1 i (List.mem_range.2 hi)
    simp only [ho, Bool.and_eq_true] at this
    refine ⟨?_, fun e he => ?_⟩
    · simp only [dstOf, ho, Option.bind_some]
      cases hd : o.dst with
      | none => rw [hd] at this; simp at this
      | some d => rfl
    · have h := Array.all_eq_true'.1 this.2 e he
      simpa using h
  have hne : ∀ i j, i < ops'.length → j < ops'.length → i ≠ j → dstOf ops' i ≠ dstOf ops' j := by
    intro i j hi hj hij he
    have := List.all_eq_true.1 (List.all_eq_true.1 h2 i (List.mem_range.2 hi)) j (List.mem_range.2 hj)
    simp only [Bool.or_eq_true, beq_iff_eq, hij, false_or, bne_iff_ne, ne_eq] at this
    apply this
    have ei := (hdst i _ (List.getElem?_eq_getElem hi)).1
    have ej := (hdst j _ (List.getElem?_eq_getElem hj)).1
    rw [List.getElem?_eq_getElem hi, List.getElem?_eq_getElem hj]
    simp only [Option.bind_some, ei, ej, he]
  unfold Wc
  refine wp_region_any hm ?_
  have key : ∀ fuel (listed : Array Bool) F w, DrInv ops' Φ F0 w0 listed F w → unl listed = fuel → wpAny P .any ops'.toArray (QA n ds Q) fuel listed (act n ds F) w := by
    intro fuel
    have allDone : ∀ (listed : Array Bool) F w, DrInv ops' Φ F0 w0 listed F w → Region.ready .any ops'.toArray listed = [] → Q .normal F w := by
      intro listed F w hI hr
      have hall : ∀ i, i < ops'.length → listed[i]? = some true := by
        intro i
        induction i using Nat.strongRecOn with
        | ind i ih =>
          intro hi
          have his : i < listed.size := by rw [hI.size]; exact hi
          cases hb : listed[i] with
          | true => rw [Array.getElem?_eq_getElem his, hb]
          | false =>
            exfalso
            have : i ∈ Region.ready .any ops'.toArray listed := by
              refine mem_ready.2 ⟨?_, ops'[i], by simp, fun e he _ => ?_⟩
              · simp [Array.getD_eq_getD_getElem?, Array.getElem?_eq_getElem his, hb]
              · have := (hdst i _ (List.getElem?_eq_getElem hi)).2 e he
                simp [Array.getD_eq_getD_getElem?, ih e.on this (by omega)]
            rw [hr] at this
            cases this
      exact fin F w hI.new (fun i hi => hI.done i (hall i hi)) (fun s hs => hI.rest s fun i hi => by
        rcases Nat.lt_or_ge i ops'.length with h | h
        · exact hs i h
        · rw [Array.getElem?_eq_none (by rw [hI.size]; exact h)] at hi; cases hi)
    induction fuel with
    | zero =>
      intro listed F w hI hu
      have hr : Region.ready .any ops'.toArray listed = [] := by
        rw [List.eq_nil_iff_forall_not_mem]
        intro i hi
        have h0 := (mem_ready.1 hi).1
        have : false ∈ listed.toList := by
          rcases Nat.lt_or_ge i listed.size with h | h
          · simp [Array.getD_eq_getD_getElem?, Array.getElem?_eq_getElem h] at h0
            rw [← h0]; simp
          · simp [Array.getD_eq_getD_getElem?, Array.getElem?_eq_none h] at h0
        have := List.count_pos_iff.2 this
        unfold unl at hu; omega
      exact ⟨hr, F, rfl, allDone listed F w hI hr⟩
    | succ fuel ih =>
      intro listed F w hI hu
      refine ⟨fun hr => ⟨F, rfl, allDone listed F w hI hr⟩, fun i hi => ?_⟩
      obtain ⟨h0, o, ho, hedges⟩ := mem_ready.1 hi
      have ho' : ops'[i]? = some o := by simpa using ho
      have hil : i < ops'.length := (List.getElem?_eq_some_iff.1 ho').1
      have his : i < listed.size := by rw [hI.size]; exact hil
      have hli : listed[i] = false := by simpa [Array.getD_eq_getD_getElem?, Array.getElem?_eq_getElem his] using h0
      have hlt : ∀ e ∈ o.after, Region.binds .any e = true → listed[e.on]? = some true := by
        intro e he hb
        have h := hedges e he hb
        rcases Nat.lt_or_ge e.on listed.size with h' | h'
        · simp [Array.getD_eq_getD_getElem?, Array.getElem?_eq_getElem h'] at h
          rw [Array.getElem?_eq_getElem h', h]
        · simp [Array.getD_eq_getD_getElem?, Array.getElem?_eq_none h'] at h
      have hs := step i o ho' F w hI.new (fun j hj => by
        obtain ⟨e, he, hb⟩ := Array.any_eq_true'.1 hj
        simp only [Bool.and_eq_true, beq_iff_eq] at hb
        exact hI.done j (hb.1 ▸ hlt e he hb.2)) (fun s hs => hI.rest s fun k hk he => by
          have hkl : k < ops'.length := by
            rcases Nat.lt_or_ge k ops'.length with h | h
            · exact h
            · rw [Array.getElem?_eq_none (by rw [hI.size]; exact h)] at hk; cases hk
          have hok := List.getElem?_eq_getElem hkl
          have h3 := List.all_eq_true.1 hs _ (List.getElem_mem hkl)
          rw [(hdst k _ hok).1, he] at h3
          simp only [bne_self_eq_false, Bool.false_or] at h3
          obtain ⟨e, hee, hb⟩ := Array.any_eq_true'.1 h3
          simp only [Bool.and_eq_true, beq_iff_eq] at hb
          have := hI.clos k _ hk hok e hee hb.2
          rw [hb.1, Array.getElem?_eq_getElem his, hli] at this
          cases this)
      have hwp : wpOp P ops'.toArray (QA n ds (Qone Φ w (dstOf ops' i) i F)) i (fun a w' => QA n ds (Qone Φ w (dstOf ops' i) i F) .normal a w') (act n ds F) w := by
        have hs2 := hs
        unfold Wl wpList at hs2
        unfold wpOp
        simp only [ho]
        exact hs2
      have hmono : ∀ {K K' : Act → World → Prop}, (∀ a w, K a w → K' a w) → wpOp P ops'.toArray (QA n ds (Qone Φ w (dstOf ops' i) i F)) i K (act n ds F) w → wpOp P ops'.toArray (QA n ds Q) i K' (act n ds F) w := by
        intro K K' hK hh
        have noQ : ∀ e a w', e ≠ .normal → ¬ QA n ds (Qone Φ w (dstOf ops' i) i F) e a w' := by
          rintro e a w' he ⟨F', _, h, _⟩; exact he h
        unfold wpOp at hh ⊢
        simp only [ho] at hh ⊢
        split
        · rename_i hw
          rw [if_pos hw] at hh
          rcases hh with hh | ⟨_, a₀, w₀, hq⟩
          · refine .inl ?_
            unfold Oper.wp at *
            generalize (execOp (act n ds F).eval o).run P w = r at *
            cases r with
            | ok nx w' =>
              cases nx <;> simp only [Oper.upon] at hh ⊢ <;>
                first
                  | exact hK _ _ hh
                  | exact Calls.mono hh (fun e w'' he => by cases e <;> first | exact hK _ _ he | exact absurd he (noQ _ _ _ (by simp)) | (obtain ⟨a₀, w₀, hq⟩ := he; exact absurd hq (noQ _ _ _ (by simp))))
                  | exact Rows.mono hh (fun _ _ he => hK _ _ he)
            | halt x w' => cases x <;> simp only [Oper.upon] at hh ⊢ <;> exact absurd hh (noQ _ _ _ (by simp))
          · exact absurd hq (noQ _ _ _ (by simp))
        · rename_i hw
          rw [if_neg hw] at hh
          exact hK _ _ hh
      refine hmono ?_ hwp
      rintro a w' ⟨F', rfl, _, v, rfl, hn, hΦ⟩
      refine ih _ _ _ ⟨by simpa using hI.size, New.trans hI.new hn, fun j hj => ?_, fun s hs => ?_, fun j oj hj hoj e he hb => ?_⟩ ?_
      · by_cases hji : j = i
        · subst hji
          rw [upd_eq, if_pos rfl]; exact hΦ
        · rw [Array.getElem?_setIfInBounds_ne (Ne.symm hji)] at hj
          have hjl : j < ops'.length := by
            rcases Nat.lt_or_ge j ops'.length with h | h
            · exact h
            · rw [Array.getElem?_eq_none (by rw [hI.size]; exact h)] at hj; cases hj
          rw [upd_eq, if_neg (hne j i hjl hil hji)]
          exact hst _ _ _ _ hn (hI.done j hj)
      · have := hs i (by simp [his])
        rw [upd_eq, if_neg (Ne.symm this)]
        exact hI.rest s fun j hj => hs j (by
          by_cases hji : j = i
          · subst hji; simp [his]
          · rw [Array.getElem?_setIfInBounds_ne (Ne.symm hji)]; exact hj)
      · by_cases hei : e.on = i
        · rw [hei]; simp [his]
        · rw [Array.getElem?_setIfInBounds_ne (Ne.symm hei)]
          by_cases hji : j = i
          · subst hji
            rw [ho'] at hoj; cases hoj
            exact hlt e he hb
          · rw [Array.getElem?_setIfInBounds_ne (Ne.symm hji)] at hj
            exact hI.clos j oj hj hoj e he hb
      · unfold unl at hu ⊢
        rw [Array.toList_setIfInBounds, List.count_set (by simpa using his)]
        simp [hli, hu]
  have hI0 : DrInv ops' Φ F0 w0 (Array.replicate ops'.length false) F0 w0.drew :=
    ⟨by simp, Chg.drew _ _, fun i hi => (by rw [Array.getElem?_replicate] at hi; split at hi <;> cases hi), fun s _ => rfl, fun i o hi => (by rw [Array.getElem?_replicate] at hi; split at hi <;> cases hi)⟩
  have := key ops'.length _ _ _ hI0 (by simp [unl])
  simpa using this

/-- The same, its steps one by one. -/
def StepAt (P : Program) (n : Nat) (ds : List Deferred) (Φ : Nat → Value → World → Prop) (ops : List Oper) (F0 : Fr) (w0 : World) (i : Nat) (o : Oper) : Prop :=
  ∀ F w, New w0 w → (∀ j, (o.after.any fun e => e.on == j && Region.binds .any e) = true → Φ j (F (dstOf ops j)) w) → (∀ s, freeFor ops i s = true → F s = F0 s) →
      Wl P n ds (Qone Φ w (dstOf ops i) i F) ops [o] F w
def StepsAt (P : Program) (n : Nat) (ds : List Deferred) (Φ : Nat → Value → World → Prop) (ops : List Oper) (F0 : Fr) (w0 : World) : Nat → List Oper → Prop
  | _, [] => True
  | i, o :: r => StepAt P n ds Φ ops F0 w0 i o ∧ StepsAt P n ds Φ ops F0 w0 (i + 1) r
theorem StepsAt.get {Φ : Nat → Value → World → Prop} : ∀ {l : List Oper} {k : Nat}, StepsAt P n ds Φ ops F0 w0 k l → ∀ (i : Nat) (o : Oper), l[i]? = some o → StepAt P n ds Φ ops F0 w0 (k + i) o
  | [], _, _, i, o, h => by simp at h
  | o' :: r, k, hs, 0, o, h => by simp at h; subst h; exact hs.1
  | o' :: r, k, hs, i + 1, o, h => by
    have := StepsAt.get hs.2 i o (by simpa using h)
    rw [Nat.add_right_comm] at this
    exact this
theorem Wc.regionS {id : Nat} (Φ : Nat → Value → World → Prop) (hm : P.follows .mixedOrders = true) (h1 : downOk ops = true) (h2 : dstOk ops = true)
    (hst : ∀ i v w w', New w w' → Φ i v w → Φ i v w') (step : StepsAt P n ds Φ ops F0 w0 0 ops)
    (fin : ∀ F w, New w0 w → (∀ i, i < ops.length → Φ i (F (dstOf ops i)) w) → (∀ s, (∀ i, i < ops.length → dstOf ops i ≠ s) → F s = F0 s) → Q .normal F w) :
    Wc P n ds Q (.region id ops.toArray true) F0 w0 :=
  Wc.regionD Φ hm h1 h2 hst (fun i o ho => by have := step.get i o ho; rwa [Nat.zero_add] at this) fin
theorem yld_of {F : Fr} {j d : Nat} {b : Bool} (h : (ops[j]?).bind (·.dst) = some d) (hd : Nat.blt d n = true) (hv : F d = .bool b) : yld ops n F j = some b := by
  simp only [yld, h, hd, hv]
end
end Go.Proofs.YtpnpllghabbhlaaGreatDoor.Wk

namespace Go.Proofs.YtpnpllghabbhlaaGreatDoor.Wk
open Go Go.RowKit

/-- What x is as data. -/
abbrev Dat (α : Type) := (H : Type) → α → DataW H → Prop
/-- Whatever reads as data of type t (spare places and all) is an x by R, x as that data by D; what it reaches are the places read. -/
def Opens {α : Type} (P : Program) (t : TypeId) (R : Rel α) (D : Dat α) : Prop :=
  ∀ (H : Type) (enc : TypeId × Value → H) (w : World) (fuel : Nat) (cs : List Value) (d : DataW H) (ps : List MemPlace), DataW.trod enc P w 0 (fun _ => true) true fuel t cs = some (d, ps) →
    ∃ x : α, (∀ Pb : Nat → Prop, (∀ p ∈ ps, Pb p.block) → R Pb w x cs) ∧ D H x d
def datInt (k : IntKind) : Dat Int := fun _ x d => d = .lit (.int k x) ∧ (Lit.int k x).wf = true
def datStr : Dat (List UInt8) := fun _ x d => d = .lit (.string x) ∧ x.length ≤ maxLen
def datBool : Dat Bool := fun _ x d => d = .lit (.bool x)
def datSl {α : Type} (D : Dat α) : Dat (List α) := fun H xs d => (d = .nil ∧ xs = []) ∨ ∃ es sp : List (DataW H), d = .slice es sp ∧ es.length = xs.length ∧ ∀ (i : Nat) (x : α), xs[i]? = some x → ∃ y, es[i]? = some y ∧ D H x y
def rSl {α : Type} (R : Rel α) (sz : Nat) : Rel (List α) := fun Pb w xs cs => ∃ v, cs = [v] ∧ RdS R sz Pb w v xs

section
variable {P : Program} {t e : TypeId}
theorem opens_int {k : IntKind} (ht : P.underlying t = some (.int k)) : Opens P t (one fun x : Int => .int k x) (datInt k) := by
  intro H enc w fuel cs d ps h
  obtain ⟨n, rfl, hx, hw⟩ := DataW.trod_int ht h
  cases hx
  exact ⟨n, fun _ _ => rfl, rfl, hw⟩
theorem opens_str (ht : P.underlying t = some .string) : Opens P t (one vs) datStr := by
  intro H enc w fuel cs d ps h
  obtain ⟨s, rfl, hx, hw⟩ := DataW.trod_string ht h
  cases hx
  exact ⟨s.data.toList, fun _ _ => rfl, rfl, hw⟩
theorem opens_bool (ht : P.underlying t = some .bool) : Opens P t (one fun x : Bool => .bool x) datBool := by
  intro H enc w fuel cs d ps h
  obtain ⟨b, rfl, hx⟩ := DataW.trod_bool ht h
  cases hx
  exact ⟨b, fun _ _ => rfl, rfl⟩
theorem cells?_get {w : World} {a : Addr} {n : Nat} {cs : List Value} (h : w.cells? 0 a n = some cs) : cs.length = n ∧ ∀ j, j < n → w.cell? (a.add j) = cs[j]? := by
  unfold World.cells? at h
  rw [if_pos (Nat.zero_le _)] at h
  refine ⟨by simpa using mapM_some_length h, fun j hj => ?_⟩
  have := mapM_some_get h j j (by simp [hj])
  exact this
theorem list_of {α : Type} {n : Nat} {Q : Nat → α → Prop} (h : ∀ i, i < n → ∃ x, Q i x) : ∃ xs : List α, xs.length = n ∧ ∀ (i : Nat) (x : α), xs[i]? = some x → Q i x := by
  induction n with
  | zero => exact ⟨[], rfl, fun i x hx => by simp at hx⟩
  | succ n ih =>
    obtain ⟨xs, h1, h2⟩ := ih fun i hi => h i (by omega)
    obtain ⟨x, hx⟩ := h n (by omega)
    refine ⟨xs ++ [x], by simp [h1], fun i y hy => ?_⟩
    rw [List.getElem?_append] at hy
    split at hy
    · exact h2 i y hy
    · rename_i hi
      have : i = n := by
        have := (List.getElem?_eq_some_iff.1 hy).1
        simp at this; omega
      subst this
      simp [h1] at hy
      rw [← hy]; exact hx
theorem opens_slice {α : Type} {R : Rel α} {D : Dat α} {sz : Nat} (ht : P.underlying t = some (.slice e)) (hc : P.cellsOf e = sz) (hsz : 0 < sz) (he : Opens P e R D) : Opens P t (rSl R sz) (datSl D) := by
  intro H enc w fuel cs d ps h
  rcases DataW.trod_slice ht h with ⟨rfl, hx⟩ | ⟨a, len, cap, elems, rest, m, rfl, rfl, hx, _, hl, hm, hlen, hel, hsp, _⟩
  · cases hx
    exact ⟨[], fun _ _ => ⟨_, rfl, RdS.nil⟩, .inl ⟨rfl, rfl⟩⟩
  · cases hx
    rw [hc] at *
    have each : ∀ i, i < len → ∃ cs' y, w.cells? 0 (a.add (i * sz)) sz = some cs' ∧ DataW.trod enc P w 0 (fun _ => true) true m e cs' = some y ∧ elems[i]? = some y := by
      intro i hi
      have h1 := hel i hi
      have h2 : i < elems.length := by omega
      rw [List.getElem?_eq_getElem h2] at h1
      obtain ⟨cs', h3, h4⟩ := Option.bind_eq_some_iff.1 h1
      exact ⟨cs', _, h3, h4, List.getElem?_eq_getElem h2⟩
    have key : ∀ i, i < len → ∃ x : α, ∃ y cs', w.cells? 0 (a.add (i * sz)) sz = some cs' ∧ elems[i]? = some y ∧ (∀ Pb : Nat → Prop, (∀ p ∈ y.2, Pb p.block) → R Pb w x cs') ∧ D H x y.1 := by
      intro i hi
      obtain ⟨cs', y, h1, h2, h3⟩ := each i hi
      obtain ⟨x, h4, h5⟩ := he H enc w m cs' y.1 y.2 h2
      exact ⟨x, y, cs', h1, h3, h4, h5⟩
    obtain ⟨xs, hxl, hxs⟩ := list_of key
    refine ⟨xs, fun Pb hP => ⟨_, rfl, ?_⟩, .inr ⟨_, _, rfl, by simp [hlen, hxl], fun i x hx => ?_⟩⟩
    · by_cases h0 : len = 0
      · subst h0
        have : xs = [] := List.eq_nil_of_length_eq_zero hxl
        subst this
        exact .inr (.inl ⟨a, cap, rfl, rfl, hm⟩)
      · -- the block, by its first cell
        have hx0 : xs[0]? = some xs[0] := List.getElem?_eq_getElem (by omega)
        obtain ⟨y0, cs0, hc0, _, _, _⟩ := hxs 0 _ hx0
        have g0 := (cells?_get hc0).2 0 hsz
        have hl0 := (cells?_get hc0).1
        have hsome : w.cell? a = some (cs0[0]'(by omega)) := by
          have e1 : (a.add (0 * sz)).add 0 = a := by simp [Addr.add]
          rw [e1] at g0
          rw [g0, List.getElem?_eq_getElem]
        obtain ⟨b, off, spot⟩ := a
        have hspot : spot = none := World.cell?_spot hsome
        subst hspot
        obtain ⟨cur, ee, fr, hh⟩ : ∃ cur ee fr, w.heap[b]? = some (.cells cur ee fr) := by
          simp only [World.cell?] at hsome
          split at hsome
          · rename_i c e f hh; exact ⟨c, e, f, hh⟩
          · cases hsome
        have hcell : ∀ o, w.cell? ⟨b, o, none⟩ = cur[o]? := fun o => by simp [World.cell?, hh]
        have hcs : ∀ i x, xs[i]? = some x → ∃ y cs', cs'.length = sz ∧ (∀ j, j < sz → cur[off + i * sz + j]? = cs'[j]?) ∧ elems[i]? = some y ∧ (∀ Pb : Nat → Prop, (∀ p ∈ y.2, Pb p.block) → R Pb w x cs') := by
          intro i x hx
          obtain ⟨y, cs', h1, h2, h3, _⟩ := hxs i x hx
          obtain ⟨h5, h6⟩ := cells?_get h1
          refine ⟨y, cs', h5, fun j hj => ?_, h2, h3⟩
          rw [← h6 j hj, addr_add, addr_add, hcell]
        have hbig : off + len * sz ≤ cur.size := by
          obtain ⟨q, hq⟩ : ∃ q, len = q + 1 := ⟨len - 1, by omega⟩
          have hxq : xs[q]? = some (xs[q]'(by omega)) := List.getElem?_eq_getElem (by omega)
          obtain ⟨_, cs', h1, h2, _, _⟩ := hcs q _ hxq
          have h3 := h2 (sz - 1) (by omega)
          rw [List.getElem?_eq_getElem (by omega)] at h3
          have h4 := (Array.getElem?_eq_some_iff.1 h3).1
          rw [hq, Nat.add_mul]
          omega
        refine .inr (.inr ⟨b, off, cap, cur, ee, fr, by rw [hxl], ?_, hh, by omega, hm, by rw [hxl]; exact hbig, fun i x hx => ?_⟩)
        · refine hP (.cell b off) ?_
          refine List.mem_append_left _ ?_
          simp only [MemPlace.row, List.mem_map, List.mem_range]
          refine ⟨0, Nat.mul_pos (by omega) hsz, by simp⟩
        · obtain ⟨y, cs', h1, h2, h3, h4⟩ := hcs i x hx
          have hi : i < len := by have := (List.getElem?_eq_some_iff.1 hx).1; omega
          have e1 : (cur.toList.drop (off + i * sz)).take sz = cs' := by
            apply List.ext_getElem?
            intro j
            rw [List.getElem?_take]
            split
            · rename_i hj
              rw [List.getElem?_drop, ← h2 j hj]
              simp
            · rename_i hj
              rw [List.getElem?_eq_none (by omega)]
          rw [e1]
          refine h4 Pb fun p hp => hP p ?_
          refine List.mem_append_right _ ?_
          rw [List.flatMap_append]
          exact List.mem_append_left _ (List.mem_flatMap.2 ⟨y, List.mem_of_getElem? h3, hp⟩)
    · obtain ⟨y, cs', _, h2, _, h4⟩ := hxs i x hx
      exact ⟨y.1, by simp [h2], h4⟩
end
end Go.Proofs.YtpnpllghabbhlaaGreatDoor.Wk

namespace Go.Proofs.YtpnpllghabbhlaaGreatDoor.Wk
open Go Go.RowKit

/-- A struct of n fields of one cell each. -/
class Flat (P : Program) (t : TypeId) (n : outParam Nat) : Prop where
  ex : ∃ fs, P.underlying t = some (.struct fs) ∧ fs.size = n ∧ ((List.range n).all fun i => match fs[i]? with | some f => f.offset == i && (P.info? f.type).map (·.size) == some 1 | none => false) = true
def setAll (cs : Array Value) : List (Nat × Value) → Array Value
  | [] => cs
  | (i, v) :: r => setAll (cs.setIfInBounds i v) r
section
variable {P : Program} {n : Nat} {ds : List Deferred} {Q : Po} {F : Fr} {w w' : World} {ops rest : List Oper} {d d1 d2 : Nat} {ty ty1 ty2 : TypeId} {pos pos1 pos2 : String} {aft aft1 aft2 : Array Edge}
theorem mapM_ok {α β : Type} {f : α → Sem β} {g : α → β} : ∀ (l : List α), (∀ x ∈ l, ∀ w, (f x).run P w = .ok (g x) w) → ∀ w, (l.mapM f).run P w = .ok (l.map g) w
  | [], _, w => by simp
  | x :: l, h, w => by
    rw [List.mapM_cons]
    simp only [Sem.run_bind, h x (by simp), Result.andThen_ok, mapM_ok l (fun y hy => h y (by simp [hy])), Sem.run_pure, List.map_cons]
theorem fill_flat {m : Nat} {places : Nat → Option (Nat × Nat)} : ∀ (parts : List (Nat × Value)) (cells : Array Value), cells.size = m → (∀ i, i < m → places i = some (i, 1)) → (∀ p ∈ parts, p.1 < m ∧ p.2.cells = #[p.2]) →
    Instr.fill places cells parts = some (setAll cells parts)
  | [], cells, _, _, _ => rfl
  | (i, v) :: r, cells, hs, hp, h => by
    obtain ⟨h1, h2⟩ := h (i, v) (by simp)
    dsimp only at h1 h2
    simp only [Instr.fill, hp i h1, h2]
    rw [if_neg (by simp; omega), ← Array.foldl_toList, Array.toList_zipIdx]
    exact fill_flat r _ (by simpa using hs) hp fun p hp => h p (by simp [hp])
theorem run_buildF {t : TypeId} {m sz bytes : Nat} {agg : Bool} {z : Value} {parts : List (Nat × Value)} (hf : Flat P t m) (he : ElT P t sz bytes agg z) (hz : z.cells.size = m) (hp : ∀ p ∈ parts, p.1 < m ∧ p.2.cells = #[p.2]) :
    (Instr.build t parts.toArray).run P w = .ok (.agg (setAll z.cells parts)) w := by
  obtain ⟨fs, hu, hsz, hall⟩ := hf.ex
  have hfield : ∀ (i : Nat) (hi : i < fs.size), fs[i].offset = i ∧ ∀ w, (sizeOf fs[i].type).run P w = .ok 1 w := by
    intro i hi
    have := List.all_eq_true.1 hall i (List.mem_range.2 (by omega))
    simp only [Array.getElem?_eq_getElem hi, Bool.and_eq_true, beq_iff_eq] at this
    refine ⟨this.1, fun w => ?_⟩
    obtain ⟨ti, h1, h2⟩ := Option.map_eq_some_iff.1 this.2
    simp [sizeOf, typeInfo, h1, h2]
  have hm : (fs.mapM fun f => (do pure (f.offset, ← sizeOf f.type) : Sem (Nat × Nat))).run P w = .ok (fs.map fun f => (f.offset, 1)) w := by
    rw [Array.mapM_eq_mapM_toList]
    have := mapM_ok (P := P) (f := fun f : Field => (Prod.mk f.offset <$> sizeOf f.type : Sem (Nat × Nat))) (g := fun f => (f.offset, 1)) fs.toList (fun f hf w => by
      obtain ⟨i, hi, rfl⟩ := List.getElem_of_mem hf
      have := (hfield i (by simpa using hi)).2 w
      simp at this ⊢
      simp [this]) w
    simp [this]
    apply Array.ext'
    simp
  have hpl : ∀ i, i < m → (fs.map fun f => (f.offset, 1))[i]? = some (i, 1) := by
    intro i hi
    have hi' : i < fs.size := by omega
    rw [Array.getElem?_map, Array.getElem?_eq_getElem hi']
    simp [(hfield i hi').1]
  have hfill := fill_flat (m := m) (places := ((fs.map fun f => (f.offset, 1))[·]?)) parts z.cells hz hpl hp
  simp only [Instr.build, Sem.run_bind, he.zeroValue, Result.andThen_ok, run_underlying hu, hm, hfill, Sem.run_pure]
/-- A struct by its parts. -/
theorem Wl.buildF {t : TypeId} {m sz bytes : Nat} {agg : Bool} {z : Value} {ps : List (Nat × Operand)} {parts : List (Nat × Value)} [hf : Flat P t m] [he : ElT P t sz bytes agg z] (hz : z.cells.size = m) (hps : ps.map (fun p => (p.1, ev n F p.2)) = parts) (hp : ∀ p ∈ parts, p.1 < m ∧ p.2.cells = #[p.2])
    (c : Wl P n ds Q ops rest (upd F d (.agg (setAll z.cells parts))) w) : Wl P n ds Q ops (⟨some d, .build t ps.toArray, ty, pos, aft, none⟩ :: rest) F w := by
  refine Wl.val ?_ c
  subst hps
  have := run_buildF (P := P) (w := w) hf he hz hp
  simp only [execOp, List.map_toArray, Sem.run_bind]
  rw [this]; rfl
/-- A variable of several cells, whole. -/
theorem Wl.loadB {x : Operand} {e sz bytes : Nat} {z : Value} {b : Nat} {T : TypeId} {cs : List Value} [he : ElT P e sz bytes true z] (h : Bk w b T cs) (hl : cs.length = sz) (hx : ev n F x = .pointer (some ⟨b, 0, none⟩))
    (c : Wl P n ds Q ops rest (upd F d (.agg cs.toArray)) w) : Wl P n ds Q ops (⟨some d, .load e x, ty, pos, aft, none⟩ :: rest) F w :=
  Wl.val (by simp only [execOp, hx, Sem.run_bind, run_loadA he hl (fun j u hu => by rw [Nat.zero_add]; exact h.cell hu), Result.andThen_ok, Sem.run_pure]) c
/-- a[j] of an array by value, elements of one cell. -/
theorem Wl.idxArr {x i : Operand} {t e m bytes : Nat} {z u : Value} {k : IntKind} {j : Int} {cs : List Value} [ht : Und P t (.array m e)] [he : ElT P e 1 bytes false z] (hx : ev n F x = .agg cs.toArray) (hi : ev n F i = .int k j) (h0 : 0 ≤ j) (h1 : j < m) (hu : cs[j.toNat]? = some u)
    (c : Wl P n ds Q ops rest (upd F d u) w) : Wl P n ds Q ops (⟨some d, .index t x i, ty, pos, aft, none⟩ :: rest) F w := by
  have : (Instr.index t (.agg cs.toArray) (.int k j)).run P w = .ok u w := by
    simp [Instr.index, asIntOf, run_underlying ht.h, h0, h1, he.sizeOf, part, he.isAgg, hu]
  exact Wl.val (by simp only [execOp, hx, hi, Sem.run_bind, this, Result.andThen_ok, Sem.run_pure]) c
/-- A field of a struct by value, one cell. -/
theorem Wl.field1 {x : Operand} {t i off fty bytes : Nat} {z u : Value} {cs : List Value} [hf : Fld P t i off fty] [he : ElT P fty 1 bytes false z] (hx : ev n F x = .agg cs.toArray) (hu : cs[off]? = some u)
    (c : Wl P n ds Q ops rest (upd F d u) w) : Wl P n ds Q ops (⟨some d, .field t x i, ty, pos, aft, none⟩ :: rest) F w := by
  obtain ⟨fs, f, h1, h2, rfl, rfl⟩ := hf.ex
  have : (Instr.field t (.agg cs.toArray) i).run P w = .ok u w := by
    simp [Instr.field, run_underlying h1, h2, asAgg, part, he.isAgg, hu]
  exact Wl.val (by simp only [execOp, hx, Sem.run_bind, this, Result.andThen_ok, Sem.run_pure]) c
/-- (*[N]T)(s). -/
theorem Wl.toArrP {x : Operand} {t m e : Nat} {a : Option Addr} {l cap : Nat} [ht : Und P t (.array m e)] (hx : ev n F x = .slice a l cap) (hl : m ≤ l)
    (c : Wl P n ds Q ops rest (upd F d (.pointer a)) w) : Wl P n ds Q ops (⟨some d, .sliceToArrayPointer t x, ty, pos, aft, none⟩ :: rest) F w := by
  have : (Instr.arrayAt t (.slice a l cap)).run P w = .ok (.pointer a) w := by
    simp [Instr.arrayAt, run_underlying ht.h]; omega
  exact Wl.val (by simp only [execOp, hx, Sem.run_bind, this, Result.andThen_ok, Sem.run_pure]) c
/-- []byte(s). -/
theorem Wl.strBytes {x : Operand} {t t' e : TypeId} {l : List UInt8} [ht : Und P t .string] [ht' : Und P t' (.slice e)] [he : Und P e (.int .u8)] (hx : ev n F x = vs l) (hlm : l.length ≤ maxLen)
    (c : ∀ w' cap C fr, w'.heap[w.heap.size]? = some (.cells C e fr) → C.toList.take l.length = l.map (fun b => .int .u8 b.toNat) → l.length ≤ C.size → New w w' → w'.heap.size = w.heap.size + 1 →
      RdS (one fun b : UInt8 => .int .u8 b.toNat) 1 (fun b => w.heap.size ≤ b) w' (.slice (some ⟨w.heap.size, 0, none⟩) l.length cap) l → Wl P n ds Q ops rest (upd F d (.slice (some ⟨w.heap.size, 0, none⟩) l.length cap)) w') :
    Wl P n ds Q ops (⟨some d, .convert t t' x, ty, pos, aft, none⟩ :: rest) F w := by
  have hs : (⟨l.toArray⟩ : ByteArray).size = l.length := by simp [ByteArray.size]
  have hr := Lib.run_convert_string_bytes (P := P) w t t' e ⟨l.toArray⟩ ht.h ht'.h he.h
  have hge := grownCap_ge w l.length 0 e
  have hle := grownCap_le_maxLen w l.length 0 e hlm
  rw [hs] at hr
  have hC : Lib.bytesCells w e ⟨l.toArray⟩ = (l.map (fun b => Value.int .u8 b.toNat)).toArray ++ Array.replicate (grownCap w l.length 0 e - l.length) (.int .u8 0) := by
    simp [Lib.bytesCells, hs]
  have hnew := Lib.bytesWorld_at_new w e ⟨l.toArray⟩
  have htk : (Lib.bytesCells w e ⟨l.toArray⟩).toList.take l.length = l.map (fun b => Value.int .u8 b.toNat) := by
    rw [hC, Array.toList_append, List.take_append_of_le_length (by simp), List.take_of_length_le (by simp)]
  have hsz : l.length ≤ (Lib.bytesCells w e ⟨l.toArray⟩).size := by rw [hC]; simp
  have hn : New w (Lib.bytesWorld w e ⟨l.toArray⟩) := by
    refine ⟨rfl, rfl, rfl, by rw [Lib.bytesWorld_size]; omega, fun k hk _ => Lib.bytesWorld_at_old w e _ k hk⟩
  refine Wl.val (w' := Lib.bytesWorld w e ⟨l.toArray⟩) ?_ (c _ (grownCap w l.length 0 e) _ _ hnew htk hsz hn (Lib.bytesWorld_size w e _) ?_)
  · simp only [execOp, hx, Sem.run_bind, hr, Result.andThen_ok, Sem.run_pure]
  · refine .inr (.inr ⟨w.heap.size, 0, _, _, _, _, rfl, Nat.le_refl _, hnew, hge, hle, by omega, fun i b hb => ?_⟩)
    have hi : i < l.length := (List.getElem?_eq_some_iff.1 hb).1
    have h1 := congrArg (fun q => q[i]?) htk
    simp only [List.getElem?_take, if_pos hi, List.getElem?_map, hb, Option.map_some] at h1
    obtain ⟨h2, h3⟩ := List.getElem?_eq_some_iff.1 h1
    simp only [one, Nat.zero_add, Nat.mul_one]
    rw [List.drop_eq_getElem_cons h2, h3]; rfl

/-! ### Bits -/
theorem or_add (a b m : Nat) (hb : b < 2 ^ m) : a * 2 ^ m ||| b = a * 2 ^ m + b := by
  rw [Nat.mul_comm, Nat.two_pow_add_eq_or_of_lt hb]
theorem wrap_u {k : IntKind} (hk : k.signed = false) {x : Int} (h0 : 0 ≤ x) (h1 : x < 2 ^ k.bits) : k.wrap x = x := by
  simp only [IntKind.wrap, hk, Bool.false_and, Bool.false_eq_true, if_false]
  exact Int.emod_eq_of_lt h0 h1
theorem run_orU {k : IntKind} (hk : k.signed = false) (a b m : Nat) (hb : b < 2 ^ m) (hab : a * 2 ^ m + b < 2 ^ k.bits) : Op.intBits .or k ((a * 2 ^ m : Nat) : Int) (b : Int) = pure (.int k ((a * 2 ^ m + b : Nat) : Int)) := by
  have h1 : (BitVec.ofInt k.bits ((a * 2 ^ m : Nat) : Int) ||| BitVec.ofInt k.bits (b : Int)).toNat = a * 2 ^ m + b := by
    rw [BitVec.toNat_or, BitVec.toNat_ofInt, BitVec.toNat_ofInt]
    have e1 : (((a * 2 ^ m : Nat) : Int) % ((2 ^ k.bits : Nat) : Int)).toNat = a * 2 ^ m := by
      rw [Int.emod_eq_of_lt (by omega) (by omega)]; omega
    have e2 : ((b : Int) % ((2 ^ k.bits : Nat) : Int)).toNat = b := by
      rw [Int.emod_eq_of_lt (by omega) (by omega)]; omega
    rw [e1, e2, or_add _ _ _ hb]
  simp only [Op.intBits, h1]
  rw [wrap_u hk (by omega) (by have : ((a * 2 ^ m + b : Nat) : Int) < ((2 ^ k.bits : Nat) : Int) := by omega
                               simpa using this)]
/-- x | y, x the high bits, y below. -/
theorem Wl.orU {x y : Operand} {t t' : TypeId} {k : IntKind} {A B : Int} (a b m : Nat) (hk : k.signed = false) (hA : A = ((a * 2 ^ m : Nat) : Int)) (hB : B = (b : Int)) (hb : b < 2 ^ m) (hab : a * 2 ^ m + b < 2 ^ k.bits) (hx : ev n F x = .int k A) (hy : ev n F y = .int k B)
    (c : Wl P n ds Q ops rest (upd F d (.int k ((a * 2 ^ m + b : Nat) : Int))) w) : Wl P n ds Q ops (⟨some d, .binOp .or t x y t', ty, pos, aft, none⟩ :: rest) F w := by
  subst hA
  subst hB
  refine Wl.val ?_ c
  simp only [execOp, hx, hy, Sem.run_bind, run_eqGuard_int, Result.andThen_ok]
  have : binOp .or t (.int k ((a * 2 ^ m : Nat) : Int)) (.int k (b : Int)) = Op.intBits .or k ((a * 2 ^ m : Nat) : Int) (b : Int) := by simp [binOp]
  rw [this, run_orU hk a b m hb hab]; rfl
end
end Go.Proofs.YtpnpllghabbhlaaGreatDoor.Wk

namespace Go.Proofs.YtpnpllghabbhlaaGreatDoor
open Go.Proofs.YtpnpllghabbhlaaGreatDoor.Wk
instance elt1 : ElT Tryz.prog 1 1 8 false (.nilFunc) := ElT.mk' (by kernel_rfl) rfl (by kernel_rfl)
instance und2 : Und Tryz.prog 2 (.int .i64) := ⟨Tryz.underlying2⟩
instance elt2 : ElT Tryz.prog 2 1 8 false (.int .i64 0) := ElT.mk' (by kernel_rfl) rfl (by kernel_rfl)
instance und3 : Und Tryz.prog 3 (.int .i64) := ⟨Tryz.underlying3⟩
instance elt3 : ElT Tryz.prog 3 1 8 false (.int .i64 0) := ElT.mk' (by kernel_rfl) rfl (by kernel_rfl)
instance und4 : Und Tryz.prog 4 .bool := ⟨Tryz.underlying4⟩
instance elt4 : ElT Tryz.prog 4 1 1 false (.bool false) := ElT.mk' (by kernel_rfl) rfl (by kernel_rfl)
instance und5 : Und Tryz.prog 5 (.int .u8) := ⟨Tryz.underlying5⟩
instance elt5 : ElT Tryz.prog 5 1 1 false (.int .u8 0) := ElT.mk' (by kernel_rfl) rfl (by kernel_rfl)
instance und6 : Und Tryz.prog 6 (.int .u8) := ⟨Tryz.underlying6⟩
instance elt6 : ElT Tryz.prog 6 1 1 false (.int .u8 0) := ElT.mk' (by kernel_rfl) rfl (by kernel_rfl)
instance fld7_0 : Fld Tryz.prog 7 0 0 2 := ⟨⟨_, _, Tryz.underlying7, rfl, rfl, rfl⟩⟩
instance fld7_1 : Fld Tryz.prog 7 1 1 3 := ⟨⟨_, _, Tryz.underlying7, rfl, rfl, rfl⟩⟩
instance fld7_2 : Fld Tryz.prog 7 2 2 4 := ⟨⟨_, _, Tryz.underlying7, rfl, rfl, rfl⟩⟩
instance fld7_3 : Fld Tryz.prog 7 3 3 6 := ⟨⟨_, _, Tryz.underlying7, rfl, rfl, rfl⟩⟩
instance elt7 : ElT Tryz.prog 7 4 24 true (.agg #[.int .i64 0, .int .i64 0, .bool false, .int .u8 0]) := ElT.mk' (by kernel_rfl) rfl (by kernel_rfl)
instance fld8_0 : Fld Tryz.prog 8 0 0 2 := ⟨⟨_, _, Tryz.underlying8, rfl, rfl, rfl⟩⟩
instance fld8_1 : Fld Tryz.prog 8 1 1 3 := ⟨⟨_, _, Tryz.underlying8, rfl, rfl, rfl⟩⟩
instance fld8_2 : Fld Tryz.prog 8 2 2 4 := ⟨⟨_, _, Tryz.underlying8, rfl, rfl, rfl⟩⟩
instance fld8_3 : Fld Tryz.prog 8 3 3 6 := ⟨⟨_, _, Tryz.underlying8, rfl, rfl, rfl⟩⟩
instance elt8 : ElT Tryz.prog 8 4 24 true (.agg #[.int .i64 0, .int .i64 0, .bool false, .int .u8 0]) := ElT.mk' (by kernel_rfl) rfl (by kernel_rfl)
instance und9 : Und Tryz.prog 9 .string := ⟨Tryz.underlying9⟩
instance elt9 : ElT Tryz.prog 9 1 16 false (.string ⟨#[]⟩) := ElT.mk' (by kernel_rfl) rfl (by kernel_rfl)
instance und10 : Und Tryz.prog 10 .string := ⟨Tryz.underlying10⟩
instance elt10 : ElT Tryz.prog 10 1 16 false (.string ⟨#[]⟩) := ElT.mk' (by kernel_rfl) rfl (by kernel_rfl)
instance und11 : Und Tryz.prog 11 .string := ⟨Tryz.underlying11⟩
instance elt11 : ElT Tryz.prog 11 1 16 false (.string ⟨#[]⟩) := ElT.mk' (by kernel_rfl) rfl (by kernel_rfl)
instance und12 : Und Tryz.prog 12 (.int .u64) := ⟨Tryz.underlying12⟩
instance elt12 : ElT Tryz.prog 12 1 8 false (.int .u64 0) := ElT.mk' (by kernel_rfl) rfl (by kernel_rfl)
instance fld13_0 : Fld Tryz.prog 13 0 0 9 := ⟨⟨_, _, Tryz.underlying13, rfl, rfl, rfl⟩⟩
instance fld13_1 : Fld Tryz.prog 13 1 1 12 := ⟨⟨_, _, Tryz.underlying13, rfl, rfl, rfl⟩⟩
instance elt13 : ElT Tryz.prog 13 2 24 true (.agg #[.string ⟨#[]⟩, .int .u64 0]) := ElT.mk' (by kernel_rfl) rfl (by kernel_rfl)
instance fld14_0 : Fld Tryz.prog 14 0 0 9 := ⟨⟨_, _, Tryz.underlying14, rfl, rfl, rfl⟩⟩
instance fld14_1 : Fld Tryz.prog 14 1 1 12 := ⟨⟨_, _, Tryz.underlying14, rfl, rfl, rfl⟩⟩
instance elt14 : ElT Tryz.prog 14 2 24 true (.agg #[.string ⟨#[]⟩, .int .u64 0]) := ElT.mk' (by kernel_rfl) rfl (by kernel_rfl)
instance und15 : Und Tryz.prog 15 (.pointer 141) := ⟨Tryz.underlying15⟩
instance elt15 : ElT Tryz.prog 15 1 8 false (.pointer none) := ElT.mk' (by kernel_rfl) rfl (by kernel_rfl)
instance und16 : Und Tryz.prog 16 (.pointer 144) := ⟨Tryz.underlying16⟩
instance elt16 : ElT Tryz.prog 16 1 8 false (.pointer none) := ElT.mk' (by kernel_rfl) rfl (by kernel_rfl)
instance und17 : Und Tryz.prog 17 (.pointer 152) := ⟨Tryz.underlying17⟩
instance elt17 : ElT Tryz.prog 17 1 8 false (.pointer none) := ElT.mk' (by kernel_rfl) rfl (by kernel_rfl)
instance fld18_0 : Fld Tryz.prog 18 0 0 17 := ⟨⟨_, _, Tryz.underlying18, rfl, rfl, rfl⟩⟩
instance elt18 : ElT Tryz.prog 18 1 8 true (.agg #[.pointer none]) := ElT.mk' (by kernel_rfl) rfl (by kernel_rfl)
instance fld19_0 : Fld Tryz.prog 19 0 0 17 := ⟨⟨_, _, Tryz.underlying19, rfl, rfl, rfl⟩⟩
instance elt19 : ElT Tryz.prog 19 1 8 true (.agg #[.pointer none]) := ElT.mk' (by kernel_rfl) rfl (by kernel_rfl)
instance elt20 : ElT Tryz.prog 20 1 16 false (.nilIface) := ElT.mk' (by kernel_rfl) rfl (by kernel_rfl)
instance und21 : Und Tryz.prog 21 (.int .i32) := ⟨Tryz.underlying21⟩
instance elt21 : ElT Tryz.prog 21 1 4 false (.int .i32 0) := ElT.mk' (by kernel_rfl) rfl (by kernel_rfl)
instance und22 : Und Tryz.prog 22 (.slice 9) := ⟨Tryz.underlying22⟩
instance elt22 : ElT Tryz.prog 22 1 24 false (.slice none 0 0) := ElT.mk' (by kernel_rfl) rfl (by kernel_rfl)
instance fld23_0 : Fld Tryz.prog 23 0 0 9 := ⟨⟨_, _, Tryz.underlying23, rfl, rfl, rfl⟩⟩
instance fld23_1 : Fld Tryz.prog 23 1 1 22 := ⟨⟨_, _, Tryz.underlying23, rfl, rfl, rfl⟩⟩
instance elt23 : ElT Tryz.prog 23 2 40 true (.agg #[.string ⟨#[]⟩, .slice none 0 0]) := ElT.mk' (by kernel_rfl) rfl (by kernel_rfl)
instance fld24_0 : Fld Tryz.prog 24 0 0 9 := ⟨⟨_, _, Tryz.underlying24, rfl, rfl, rfl⟩⟩
instance fld24_1 : Fld Tryz.prog 24 1 1 22 := ⟨⟨_, _, Tryz.underlying24, rfl, rfl, rfl⟩⟩
instance elt24 : ElT Tryz.prog 24 2 40 true (.agg #[.string ⟨#[]⟩, .slice none 0 0]) := ElT.mk' (by kernel_rfl) rfl (by kernel_rfl)
instance und25 : Und Tryz.prog 25 (.int .i64) := ⟨Tryz.underlying25⟩
instance elt25 : ElT Tryz.prog 25 1 8 false (.int .i64 0) := ElT.mk' (by kernel_rfl) rfl (by kernel_rfl)
instance elt27 : ElT Tryz.prog 27 1 8 false (.nilFunc) := ElT.mk' (by kernel_rfl) rfl (by kernel_rfl)
instance fld28_0 : Fld Tryz.prog 28 0 0 9 := ⟨⟨_, _, Tryz.underlying28, rfl, rfl, rfl⟩⟩
instance fld28_1 : Fld Tryz.prog 28 1 1 22 := ⟨⟨_, _, Tryz.underlying28, rfl, rfl, rfl⟩⟩
instance elt28 : ElT Tryz.prog 28 2 40 true (.agg #[.string ⟨#[]⟩, .slice none 0 0]) := ElT.mk' (by kernel_rfl) rfl (by kernel_rfl)
instance elt30 : ElT Tryz.prog 30 1 8 false (.nilFunc) := ElT.mk' (by kernel_rfl) rfl (by kernel_rfl)
instance elt31 : ElT Tryz.prog 31 1 8 false (.nilFunc) := ElT.mk' (by kernel_rfl) rfl (by kernel_rfl)
instance elt32 : ElT Tryz.prog 32 1 8 false (.nilFunc) := ElT.mk' (by kernel_rfl) rfl (by kernel_rfl)
instance elt33 : ElT Tryz.prog 33 1 8 false (.nilFunc) := ElT.mk' (by kernel_rfl) rfl (by kernel_rfl)
instance elt35 : ElT Tryz.prog 35 1 8 false (.nilFunc) := ElT.mk' (by kernel_rfl) rfl (by kernel_rfl)
instance elt36 : ElT Tryz.prog 36 1 8 false (.nilFunc) := ElT.mk' (by kernel_rfl) rfl (by kernel_rfl)
instance elt37 : ElT Tryz.prog 37 1 8 false (.nilFunc) := ElT.mk' (by kernel_rfl) rfl (by kernel_rfl)
instance elt39 : ElT Tryz.prog 39 1 8 false (.nilFunc) := ElT.mk' (by kernel_rfl) rfl (by kernel_rfl)
instance elt40 : ElT Tryz.prog 40 1 8 false (.nilFunc) := ElT.mk' (by kernel_rfl) rfl (by kernel_rfl)
instance elt41 : ElT Tryz.prog 41 1 8 false (.nilFunc) := ElT.mk' (by kernel_rfl) rfl (by kernel_rfl)
instance elt42 : ElT Tryz.prog 42 1 8 false (.nilFunc) := ElT.mk' (by kernel_rfl) rfl (by kernel_rfl)
instance elt43 : ElT Tryz.prog 43 1 8 false (.nilFunc) := ElT.mk' (by kernel_rfl) rfl (by kernel_rfl)
instance elt44 : ElT Tryz.prog 44 1 8 false (.nilFunc) := ElT.mk' (by kernel_rfl) rfl (by kernel_rfl)
instance elt46 : ElT Tryz.prog 46 1 8 false (.nilFunc) := ElT.mk' (by kernel_rfl) rfl (by kernel_rfl)
instance elt48 : ElT Tryz.prog 48 1 8 false (.nilFunc) := ElT.mk' (by kernel_rfl) rfl (by kernel_rfl)
instance elt49 : ElT Tryz.prog 49 1 8 false (.nilFunc) := ElT.mk' (by kernel_rfl) rfl (by kernel_rfl)
instance fld50_0 : Fld Tryz.prog 50 0 0 25 := ⟨⟨_, _, Tryz.underlying50, rfl, rfl, rfl⟩⟩
instance elt50 : ElT Tryz.prog 50 1 8 true (.agg #[.int .i64 0]) := ElT.mk' (by kernel_rfl) rfl (by kernel_rfl)
instance fld51_0 : Fld Tryz.prog 51 0 0 25 := ⟨⟨_, _, Tryz.underlying51, rfl, rfl, rfl⟩⟩
instance elt51 : ElT Tryz.prog 51 1 8 true (.agg #[.int .i64 0]) := ElT.mk' (by kernel_rfl) rfl (by kernel_rfl)
instance elt53 : ElT Tryz.prog 53 1 8 false (.nilFunc) := ElT.mk' (by kernel_rfl) rfl (by kernel_rfl)
instance elt54 : ElT Tryz.prog 54 1 8 false (.nilFunc) := ElT.mk' (by kernel_rfl) rfl (by kernel_rfl)
instance elt55 : ElT Tryz.prog 55 1 8 false (.nilFunc) := ElT.mk' (by kernel_rfl) rfl (by kernel_rfl)
instance elt56 : ElT Tryz.prog 56 1 8 false (.nilFunc) := ElT.mk' (by kernel_rfl) rfl (by kernel_rfl)
instance und57 : Und Tryz.prog 57 (.slice 5) := ⟨Tryz.underlying57⟩
instance elt57 : ElT Tryz.prog 57 1 24 false (.slice none 0 0) := ElT.mk' (by kernel_rfl) rfl (by kernel_rfl)
instance elt58 : ElT Tryz.prog 58 1 8 false (.nilFunc) := ElT.mk' (by kernel_rfl) rfl (by kernel_rfl)
instance elt59 : ElT Tryz.prog 59 1 8 false (.nilFunc) := ElT.mk' (by kernel_rfl) rfl (by kernel_rfl)
instance und60 : Und Tryz.prog 60 (.pointer 62) := ⟨Tryz.underlying60⟩
instance elt60 : ElT Tryz.prog 60 1 8 false (.pointer none) := ElT.mk' (by kernel_rfl) rfl (by kernel_rfl)
instance fld61_0 : Fld Tryz.prog 61 0 0 60 := ⟨⟨_, _, Tryz.underlying61, rfl, rfl, rfl⟩⟩
instance fld61_1 : Fld Tryz.prog 61 1 1 57 := ⟨⟨_, _, Tryz.underlying61, rfl, rfl, rfl⟩⟩
instance elt61 : ElT Tryz.prog 61 2 32 true (.agg #[.pointer none, .slice none 0 0]) := ElT.mk' (by kernel_rfl) rfl (by kernel_rfl)
instance fld62_0 : Fld Tryz.prog 62 0 0 60 := ⟨⟨_, _, Tryz.underlying62, rfl, rfl, rfl⟩⟩
instance fld62_1 : Fld Tryz.prog 62 1 1 57 := ⟨⟨_, _, Tryz.underlying62, rfl, rfl, rfl⟩⟩
instance elt62 : ElT Tryz.prog 62 2 32 true (.agg #[.pointer none, .slice none 0 0]) := ElT.mk' (by kernel_rfl) rfl (by kernel_rfl)
instance elt63 : ElT Tryz.prog 63 1 16 false (.nilIface) := ElT.mk' (by kernel_rfl) rfl (by kernel_rfl)
instance elt64 : ElT Tryz.prog 64 1 16 false (.nilIface) := ElT.mk' (by kernel_rfl) rfl (by kernel_rfl)
instance elt65 : ElT Tryz.prog 65 1 8 false (.nilFunc) := ElT.mk' (by kernel_rfl) rfl (by kernel_rfl)
instance elt67 : ElT Tryz.prog 67 1 8 false (.nilFunc) := ElT.mk' (by kernel_rfl) rfl (by kernel_rfl)
instance elt68 : ElT Tryz.prog 68 1 8 false (.nilFunc) := ElT.mk' (by kernel_rfl) rfl (by kernel_rfl)
instance elt69 : ElT Tryz.prog 69 1 8 false (.nilFunc) := ElT.mk' (by kernel_rfl) rfl (by kernel_rfl)
instance elt71 : ElT Tryz.prog 71 1 8 false (.nilFunc) := ElT.mk' (by kernel_rfl) rfl (by kernel_rfl)
instance und72 : Und Tryz.prog 72 (.int .u64) := ⟨Tryz.underlying72⟩
instance elt72 : ElT Tryz.prog 72 1 8 false (.int .u64 0) := ElT.mk' (by kernel_rfl) rfl (by kernel_rfl)
instance elt74 : ElT Tryz.prog 74 1 8 false (.nilFunc) := ElT.mk' (by kernel_rfl) rfl (by kernel_rfl)
instance und75 : Und Tryz.prog 75 (.map 9 9) := ⟨Tryz.underlying75⟩
instance elt75 : ElT Tryz.prog 75 1 8 false (.map none) := ElT.mk' (by kernel_rfl) rfl (by kernel_rfl)
instance elt76 : ElT Tryz.prog 76 1 8 false (.nilFunc) := ElT.mk' (by kernel_rfl) rfl (by kernel_rfl)
instance elt77 : ElT Tryz.prog 77 1 8 false (.nilFunc) := ElT.mk' (by kernel_rfl) rfl (by kernel_rfl)
instance und78 : Und Tryz.prog 78 (.pointer 5) := ⟨Tryz.underlying78⟩
instance elt78 : ElT Tryz.prog 78 1 8 false (.pointer none) := ElT.mk' (by kernel_rfl) rfl (by kernel_rfl)
instance elt80 : ElT Tryz.prog 80 1 8 false (.nilFunc) := ElT.mk' (by kernel_rfl) rfl (by kernel_rfl)
instance elt81 : ElT Tryz.prog 81 1 8 false (.nilFunc) := ElT.mk' (by kernel_rfl) rfl (by kernel_rfl)
instance elt82 : ElT Tryz.prog 82 1 8 false (.nilFunc) := ElT.mk' (by kernel_rfl) rfl (by kernel_rfl)
instance elt83 : ElT Tryz.prog 83 1 8 false (.nilFunc) := ElT.mk' (by kernel_rfl) rfl (by kernel_rfl)
instance elt84 : ElT Tryz.prog 84 1 8 false (.nilFunc) := ElT.mk' (by kernel_rfl) rfl (by kernel_rfl)
instance elt88 : ElT Tryz.prog 88 1 8 false (.nilFunc) := ElT.mk' (by kernel_rfl) rfl (by kernel_rfl)
instance elt89 : ElT Tryz.prog 89 1 8 false (.nilFunc) := ElT.mk' (by kernel_rfl) rfl (by kernel_rfl)
instance und90 : Und Tryz.prog 90 (.pointer 86) := ⟨Tryz.underlying90⟩
instance elt90 : ElT Tryz.prog 90 1 8 false (.pointer none) := ElT.mk' (by kernel_rfl) rfl (by kernel_rfl)
instance und91 : Und Tryz.prog 91 (.slice 95) := ⟨Tryz.underlying91⟩
instance elt91 : ElT Tryz.prog 91 1 24 false (.slice none 0 0) := ElT.mk' (by kernel_rfl) rfl (by kernel_rfl)
instance elt92 : ElT Tryz.prog 92 1 8 false (.nilFunc) := ElT.mk' (by kernel_rfl) rfl (by kernel_rfl)
instance elt93 : ElT Tryz.prog 93 1 8 false (.nilFunc) := ElT.mk' (by kernel_rfl) rfl (by kernel_rfl)
instance fld94_0 : Fld Tryz.prog 94 0 0 9 := ⟨⟨_, _, Tryz.underlying94, rfl, rfl, rfl⟩⟩
instance fld94_1 : Fld Tryz.prog 94 1 1 21 := ⟨⟨_, _, Tryz.underlying94, rfl, rfl, rfl⟩⟩
instance elt94 : ElT Tryz.prog 94 2 24 true (.agg #[.string ⟨#[]⟩, .int .i32 0]) := ElT.mk' (by kernel_rfl) rfl (by kernel_rfl)
instance fld95_0 : Fld Tryz.prog 95 0 0 9 := ⟨⟨_, _, Tryz.underlying95, rfl, rfl, rfl⟩⟩
instance fld95_1 : Fld Tryz.prog 95 1 1 21 := ⟨⟨_, _, Tryz.underlying95, rfl, rfl, rfl⟩⟩
instance elt95 : ElT Tryz.prog 95 2 24 true (.agg #[.string ⟨#[]⟩, .int .i32 0]) := ElT.mk' (by kernel_rfl) rfl (by kernel_rfl)
instance und96 : Und Tryz.prog 96 .unsafePointer := ⟨Tryz.underlying96⟩
instance elt96 : ElT Tryz.prog 96 1 8 false (.pointer none) := ElT.mk' (by kernel_rfl) rfl (by kernel_rfl)
instance elt97 : ElT Tryz.prog 97 1 8 false (.nilFunc) := ElT.mk' (by kernel_rfl) rfl (by kernel_rfl)
instance elt98 : ElT Tryz.prog 98 1 8 false (.nilFunc) := ElT.mk' (by kernel_rfl) rfl (by kernel_rfl)
instance und99 : Und Tryz.prog 99 (.int .i64) := ⟨Tryz.underlying99⟩
instance elt99 : ElT Tryz.prog 99 1 8 false (.int .i64 0) := ElT.mk' (by kernel_rfl) rfl (by kernel_rfl)
instance elt100 : ElT Tryz.prog 100 1 8 false (.nilFunc) := ElT.mk' (by kernel_rfl) rfl (by kernel_rfl)
instance und101 : Und Tryz.prog 101 (.int .u64) := ⟨Tryz.underlying101⟩
instance elt101 : ElT Tryz.prog 101 1 8 false (.int .u64 0) := ElT.mk' (by kernel_rfl) rfl (by kernel_rfl)
instance und102 : Und Tryz.prog 102 (.pointer 117) := ⟨Tryz.underlying102⟩
instance elt102 : ElT Tryz.prog 102 1 8 false (.pointer none) := ElT.mk' (by kernel_rfl) rfl (by kernel_rfl)
instance elt103 : ElT Tryz.prog 103 1 8 false (.nilFunc) := ElT.mk' (by kernel_rfl) rfl (by kernel_rfl)
instance elt104 : ElT Tryz.prog 104 1 8 false (.nilFunc) := ElT.mk' (by kernel_rfl) rfl (by kernel_rfl)
instance elt105 : ElT Tryz.prog 105 1 8 false (.nilFunc) := ElT.mk' (by kernel_rfl) rfl (by kernel_rfl)
instance elt107 : ElT Tryz.prog 107 1 8 false (.nilFunc) := ElT.mk' (by kernel_rfl) rfl (by kernel_rfl)
instance elt108 : ElT Tryz.prog 108 1 8 false (.nilFunc) := ElT.mk' (by kernel_rfl) rfl (by kernel_rfl)
instance elt109 : ElT Tryz.prog 109 1 8 false (.nilFunc) := ElT.mk' (by kernel_rfl) rfl (by kernel_rfl)
instance elt110 : ElT Tryz.prog 110 1 8 false (.nilFunc) := ElT.mk' (by kernel_rfl) rfl (by kernel_rfl)
instance und111 : Und Tryz.prog 111 (.array 24 5) := ⟨Tryz.underlying111⟩
instance elt111 : ElT Tryz.prog 111 24 24 true (.agg #[.int .u8 0, .int .u8 0, .int .u8 0, .int .u8 0, .int .u8 0, .int .u8 0, .int .u8 0, .int .u8 0, .int .u8 0, .int .u8 0, .int .u8 0, .int .u8 0, .int .u8 0, .int .u8 0, .int .u8 0, .int .u8 0, .int .u8 0, .int .u8 0, .int .u8 0, .int .u8 0, .int .u8 0, .int .u8 0, .int .u8 0, .int .u8 0]) := ElT.mk' (by kernel_rfl) rfl (by kernel_rfl)
instance elt112 : ElT Tryz.prog 112 1 8 false (.nilFunc) := ElT.mk' (by kernel_rfl) rfl (by kernel_rfl)
instance elt113 : ElT Tryz.prog 113 1 8 false (.nilFunc) := ElT.mk' (by kernel_rfl) rfl (by kernel_rfl)
instance elt115 : ElT Tryz.prog 115 1 8 false (.nilFunc) := ElT.mk' (by kernel_rfl) rfl (by kernel_rfl)
instance fld116_0 : Fld Tryz.prog 116 0 0 9 := ⟨⟨_, _, Tryz.underlying116, rfl, rfl, rfl⟩⟩
instance fld116_1 : Fld Tryz.prog 116 1 1 9 := ⟨⟨_, _, Tryz.underlying116, rfl, rfl, rfl⟩⟩
instance fld116_2 : Fld Tryz.prog 116 2 2 64 := ⟨⟨_, _, Tryz.underlying116, rfl, rfl, rfl⟩⟩
instance elt116 : ElT Tryz.prog 116 3 48 true (.agg #[.string ⟨#[]⟩, .string ⟨#[]⟩, .nilIface]) := ElT.mk' (by kernel_rfl) rfl (by kernel_rfl)
instance fld117_0 : Fld Tryz.prog 117 0 0 9 := ⟨⟨_, _, Tryz.underlying117, rfl, rfl, rfl⟩⟩
instance fld117_1 : Fld Tryz.prog 117 1 1 9 := ⟨⟨_, _, Tryz.underlying117, rfl, rfl, rfl⟩⟩
instance fld117_2 : Fld Tryz.prog 117 2 2 64 := ⟨⟨_, _, Tryz.underlying117, rfl, rfl, rfl⟩⟩
instance elt117 : ElT Tryz.prog 117 3 48 true (.agg #[.string ⟨#[]⟩, .string ⟨#[]⟩, .nilIface]) := ElT.mk' (by kernel_rfl) rfl (by kernel_rfl)
instance elt118 : ElT Tryz.prog 118 1 8 false (.nilFunc) := ElT.mk' (by kernel_rfl) rfl (by kernel_rfl)
instance elt119 : ElT Tryz.prog 119 1 8 false (.nilFunc) := ElT.mk' (by kernel_rfl) rfl (by kernel_rfl)
instance elt120 : ElT Tryz.prog 120 1 8 false (.nilFunc) := ElT.mk' (by kernel_rfl) rfl (by kernel_rfl)
instance elt121 : ElT Tryz.prog 121 1 8 false (.nilFunc) := ElT.mk' (by kernel_rfl) rfl (by kernel_rfl)
instance elt122 : ElT Tryz.prog 122 1 8 false (.nilFunc) := ElT.mk' (by kernel_rfl) rfl (by kernel_rfl)
instance und123 : Und Tryz.prog 123 (.array 20 72) := ⟨Tryz.underlying123⟩
instance elt123 : ElT Tryz.prog 123 20 160 true (.agg #[.int .u64 0, .int .u64 0, .int .u64 0, .int .u64 0, .int .u64 0, .int .u64 0, .int .u64 0, .int .u64 0, .int .u64 0, .int .u64 0, .int .u64 0, .int .u64 0, .int .u64 0, .int .u64 0, .int .u64 0, .int .u64 0, .int .u64 0, .int .u64 0, .int .u64 0, .int .u64 0]) := ElT.mk' (by kernel_rfl) rfl (by kernel_rfl)
instance und124 : Und Tryz.prog 124 (.int .u32) := ⟨Tryz.underlying124⟩
instance elt124 : ElT Tryz.prog 124 1 4 false (.int .u32 0) := ElT.mk' (by kernel_rfl) rfl (by kernel_rfl)
instance und125 : Und Tryz.prog 125 (.array 65 5) := ⟨Tryz.underlying125⟩
instance elt125 : ElT Tryz.prog 125 65 65 true (.agg #[.int .u8 0, .int .u8 0, .int .u8 0, .int .u8 0, .int .u8 0, .int .u8 0, .int .u8 0, .int .u8 0, .int .u8 0, .int .u8 0, .int .u8 0, .int .u8 0, .int .u8 0, .int .u8 0, .int .u8 0, .int .u8 0, .int .u8 0, .int .u8 0, .int .u8 0, .int .u8 0, .int .u8 0, .int .u8 0, .int .u8 0, .int .u8 0, .int .u8 0, .int .u8 0, .int .u8 0, .int .u8 0, .int .u8 0, .int .u8 0, .int .u8 0, .int .u8 0, .int .u8 0, .int .u8 0, .int .u8 0, .int .u8 0, .int .u8 0, .int .u8 0, .int .u8 0, .int .u8 0, .int .u8 0, .int .u8 0, .int .u8 0, .int .u8 0, .int .u8 0, .int .u8 0, .int .u8 0, .int .u8 0, .int .u8 0, .int .u8 0, .int .u8 0, .int .u8 0, .int .u8 0, .int .u8 0, .int .u8 0, .int .u8 0, .int .u8 0, .int .u8 0, .int .u8 0, .int .u8 0, .int .u8 0, .int .u8 0, .int .u8 0, .int .u8 0, .int .u8 0]) := ElT.mk' (by kernel_rfl) rfl (by kernel_rfl)
instance elt126 : ElT Tryz.prog 126 1 8 false (.nilFunc) := ElT.mk' (by kernel_rfl) rfl (by kernel_rfl)
instance elt127 : ElT Tryz.prog 127 1 8 false (.nilFunc) := ElT.mk' (by kernel_rfl) rfl (by kernel_rfl)
instance und128 : Und Tryz.prog 128 (.pointer 130) := ⟨Tryz.underlying128⟩
instance elt128 : ElT Tryz.prog 128 1 8 false (.pointer none) := ElT.mk' (by kernel_rfl) rfl (by kernel_rfl)
instance fld129_0 : Fld Tryz.prog 129 0 0 9 := ⟨⟨_, _, Tryz.underlying129, rfl, rfl, rfl⟩⟩
instance elt129 : ElT Tryz.prog 129 1 16 true (.agg #[.string ⟨#[]⟩]) := ElT.mk' (by kernel_rfl) rfl (by kernel_rfl)
instance fld130_0 : Fld Tryz.prog 130 0 0 9 := ⟨⟨_, _, Tryz.underlying130, rfl, rfl, rfl⟩⟩
instance elt130 : ElT Tryz.prog 130 1 16 true (.agg #[.string ⟨#[]⟩]) := ElT.mk' (by kernel_rfl) rfl (by kernel_rfl)
instance fld132_0 : Fld Tryz.prog 132 0 0 5 := ⟨⟨_, _, Tryz.underlying132, rfl, rfl, rfl⟩⟩
instance fld132_1 : Fld Tryz.prog 132 1 1 5 := ⟨⟨_, _, Tryz.underlying132, rfl, rfl, rfl⟩⟩
instance elt132 : ElT Tryz.prog 132 2 2 true (.agg #[.int .u8 0, .int .u8 0]) := ElT.mk' (by kernel_rfl) rfl (by kernel_rfl)
instance fld133_0 : Fld Tryz.prog 133 0 0 5 := ⟨⟨_, _, Tryz.underlying133, rfl, rfl, rfl⟩⟩
instance fld133_1 : Fld Tryz.prog 133 1 1 5 := ⟨⟨_, _, Tryz.underlying133, rfl, rfl, rfl⟩⟩
instance elt133 : ElT Tryz.prog 133 2 2 true (.agg #[.int .u8 0, .int .u8 0]) := ElT.mk' (by kernel_rfl) rfl (by kernel_rfl)
instance und134 : Und Tryz.prog 134 (.array 16 133) := ⟨Tryz.underlying134⟩
instance elt134 : ElT Tryz.prog 134 32 32 true (.agg #[.int .u8 0, .int .u8 0, .int .u8 0, .int .u8 0, .int .u8 0, .int .u8 0, .int .u8 0, .int .u8 0, .int .u8 0, .int .u8 0, .int .u8 0, .int .u8 0, .int .u8 0, .int .u8 0, .int .u8 0, .int .u8 0, .int .u8 0, .int .u8 0, .int .u8 0, .int .u8 0, .int .u8 0, .int .u8 0, .int .u8 0, .int .u8 0, .int .u8 0, .int .u8 0, .int .u8 0, .int .u8 0, .int .u8 0, .int .u8 0, .int .u8 0, .int .u8 0]) := ElT.mk' (by kernel_rfl) rfl (by kernel_rfl)
instance elt135 : ElT Tryz.prog 135 1 8 false (.nilFunc) := ElT.mk' (by kernel_rfl) rfl (by kernel_rfl)
instance elt136 : ElT Tryz.prog 136 1 8 false (.nilFunc) := ElT.mk' (by kernel_rfl) rfl (by kernel_rfl)
instance elt137 : ElT Tryz.prog 137 1 8 false (.nilFunc) := ElT.mk' (by kernel_rfl) rfl (by kernel_rfl)
instance und138 : Und Tryz.prog 138 (.array 32 5) := ⟨Tryz.underlying138⟩
instance elt138 : ElT Tryz.prog 138 32 32 true (.agg #[.int .u8 0, .int .u8 0, .int .u8 0, .int .u8 0, .int .u8 0, .int .u8 0, .int .u8 0, .int .u8 0, .int .u8 0, .int .u8 0, .int .u8 0, .int .u8 0, .int .u8 0, .int .u8 0, .int .u8 0, .int .u8 0, .int .u8 0, .int .u8 0, .int .u8 0, .int .u8 0, .int .u8 0, .int .u8 0, .int .u8 0, .int .u8 0, .int .u8 0, .int .u8 0, .int .u8 0, .int .u8 0, .int .u8 0, .int .u8 0, .int .u8 0, .int .u8 0]) := ElT.mk' (by kernel_rfl) rfl (by kernel_rfl)
instance und139 : Und Tryz.prog 139 (.array 64 5) := ⟨Tryz.underlying139⟩
instance elt139 : ElT Tryz.prog 139 64 64 true (.agg #[.int .u8 0, .int .u8 0, .int .u8 0, .int .u8 0, .int .u8 0, .int .u8 0, .int .u8 0, .int .u8 0, .int .u8 0, .int .u8 0, .int .u8 0, .int .u8 0, .int .u8 0, .int .u8 0, .int .u8 0, .int .u8 0, .int .u8 0, .int .u8 0, .int .u8 0, .int .u8 0, .int .u8 0, .int .u8 0, .int .u8 0, .int .u8 0, .int .u8 0, .int .u8 0, .int .u8 0, .int .u8 0, .int .u8 0, .int .u8 0, .int .u8 0, .int .u8 0, .int .u8 0, .int .u8 0, .int .u8 0, .int .u8 0, .int .u8 0, .int .u8 0, .int .u8 0, .int .u8 0, .int .u8 0, .int .u8 0, .int .u8 0, .int .u8 0, .int .u8 0, .int .u8 0, .int .u8 0, .int .u8 0, .int .u8 0, .int .u8 0, .int .u8 0, .int .u8 0, .int .u8 0, .int .u8 0, .int .u8 0, .int .u8 0, .int .u8 0, .int .u8 0, .int .u8 0, .int .u8 0, .int .u8 0, .int .u8 0, .int .u8 0, .int .u8 0]) := ElT.mk' (by kernel_rfl) rfl (by kernel_rfl)
instance fld140_0 : Fld Tryz.prog 140 0 0 17 := ⟨⟨_, _, Tryz.underlying140, rfl, rfl, rfl⟩⟩
instance fld140_1 : Fld Tryz.prog 140 1 1 17 := ⟨⟨_, _, Tryz.underlying140, rfl, rfl, rfl⟩⟩
instance fld140_2 : Fld Tryz.prog 140 2 2 17 := ⟨⟨_, _, Tryz.underlying140, rfl, rfl, rfl⟩⟩
instance fld140_3 : Fld Tryz.prog 140 3 3 9 := ⟨⟨_, _, Tryz.underlying140, rfl, rfl, rfl⟩⟩
instance elt140 : ElT Tryz.prog 140 4 40 true (.agg #[.pointer none, .pointer none, .pointer none, .string ⟨#[]⟩]) := ElT.mk' (by kernel_rfl) rfl (by kernel_rfl)
instance fld141_0 : Fld Tryz.prog 141 0 0 17 := ⟨⟨_, _, Tryz.underlying141, rfl, rfl, rfl⟩⟩
instance fld141_1 : Fld Tryz.prog 141 1 1 17 := ⟨⟨_, _, Tryz.underlying141, rfl, rfl, rfl⟩⟩
instance fld141_2 : Fld Tryz.prog 141 2 2 17 := ⟨⟨_, _, Tryz.underlying141, rfl, rfl, rfl⟩⟩
instance fld141_3 : Fld Tryz.prog 141 3 3 9 := ⟨⟨_, _, Tryz.underlying141, rfl, rfl, rfl⟩⟩
instance elt141 : ElT Tryz.prog 141 4 40 true (.agg #[.pointer none, .pointer none, .pointer none, .string ⟨#[]⟩]) := ElT.mk' (by kernel_rfl) rfl (by kernel_rfl)
instance und142 : Und Tryz.prog 142 (.array 0 16) := ⟨Tryz.underlying142⟩
instance elt142 : ElT Tryz.prog 142 0 0 true (.agg #[]) := ElT.mk' (by kernel_rfl) rfl (by kernel_rfl)
instance fld143_0 : Fld Tryz.prog 143 0 0 142 := ⟨⟨_, _, Tryz.underlying143, rfl, rfl, rfl⟩⟩
instance elt143 : ElT Tryz.prog 143 0 0 true (.agg #[]) := ElT.mk' (by kernel_rfl) rfl (by kernel_rfl)
instance fld144_0 : Fld Tryz.prog 144 0 0 142 := ⟨⟨_, _, Tryz.underlying144, rfl, rfl, rfl⟩⟩
instance elt144 : ElT Tryz.prog 144 0 0 true (.agg #[]) := ElT.mk' (by kernel_rfl) rfl (by kernel_rfl)
instance elt145 : ElT Tryz.prog 145 1 8 false (.nilFunc) := ElT.mk' (by kernel_rfl) rfl (by kernel_rfl)
instance und146 : Und Tryz.prog 146 (.int .u8) := ⟨Tryz.underlying146⟩
instance elt146 : ElT Tryz.prog 146 1 1 false (.int .u8 0) := ElT.mk' (by kernel_rfl) rfl (by kernel_rfl)
instance und147 : Und Tryz.prog 147 (.int .u8) := ⟨Tryz.underlying147⟩
instance elt147 : ElT Tryz.prog 147 1 1 false (.int .u8 0) := ElT.mk' (by kernel_rfl) rfl (by kernel_rfl)
instance elt148 : ElT Tryz.prog 148 1 8 false (.nilFunc) := ElT.mk' (by kernel_rfl) rfl (by kernel_rfl)
instance und149 : Und Tryz.prog 149 (.int .i32) := ⟨Tryz.underlying149⟩
instance elt149 : ElT Tryz.prog 149 1 4 false (.int .i32 0) := ElT.mk' (by kernel_rfl) rfl (by kernel_rfl)
instance und150 : Und Tryz.prog 150 (.int .i32) := ⟨Tryz.underlying150⟩
instance elt150 : ElT Tryz.prog 150 1 4 false (.int .i32 0) := ElT.mk' (by kernel_rfl) rfl (by kernel_rfl)
instance fld151_0 : Fld Tryz.prog 151 0 0 12 := ⟨⟨_, _, Tryz.underlying151, rfl, rfl, rfl⟩⟩
instance fld151_1 : Fld Tryz.prog 151 1 1 12 := ⟨⟨_, _, Tryz.underlying151, rfl, rfl, rfl⟩⟩
instance fld151_2 : Fld Tryz.prog 151 2 2 124 := ⟨⟨_, _, Tryz.underlying151, rfl, rfl, rfl⟩⟩
instance fld151_3 : Fld Tryz.prog 151 3 3 146 := ⟨⟨_, _, Tryz.underlying151, rfl, rfl, rfl⟩⟩
instance fld151_4 : Fld Tryz.prog 151 4 4 5 := ⟨⟨_, _, Tryz.underlying151, rfl, rfl, rfl⟩⟩
instance fld151_5 : Fld Tryz.prog 151 5 5 5 := ⟨⟨_, _, Tryz.underlying151, rfl, rfl, rfl⟩⟩
instance fld151_6 : Fld Tryz.prog 151 6 6 147 := ⟨⟨_, _, Tryz.underlying151, rfl, rfl, rfl⟩⟩
instance fld151_7 : Fld Tryz.prog 151 7 7 148 := ⟨⟨_, _, Tryz.underlying151, rfl, rfl, rfl⟩⟩
instance fld151_8 : Fld Tryz.prog 151 8 8 78 := ⟨⟨_, _, Tryz.underlying151, rfl, rfl, rfl⟩⟩
instance fld151_9 : Fld Tryz.prog 151 9 9 149 := ⟨⟨_, _, Tryz.underlying151, rfl, rfl, rfl⟩⟩
instance fld151_10 : Fld Tryz.prog 151 10 10 150 := ⟨⟨_, _, Tryz.underlying151, rfl, rfl, rfl⟩⟩
instance elt151 : ElT Tryz.prog 151 11 48 true (.agg #[.int .u64 0, .int .u64 0, .int .u32 0, .int .u8 0, .int .u8 0, .int .u8 0, .int .u8 0, .nilFunc, .pointer none, .int .i32 0, .int .i32 0]) := ElT.mk' (by kernel_rfl) rfl (by kernel_rfl)
instance fld152_0 : Fld Tryz.prog 152 0 0 12 := ⟨⟨_, _, Tryz.underlying152, rfl, rfl, rfl⟩⟩
instance fld152_1 : Fld Tryz.prog 152 1 1 12 := ⟨⟨_, _, Tryz.underlying152, rfl, rfl, rfl⟩⟩
instance fld152_2 : Fld Tryz.prog 152 2 2 124 := ⟨⟨_, _, Tryz.underlying152, rfl, rfl, rfl⟩⟩
instance fld152_3 : Fld Tryz.prog 152 3 3 146 := ⟨⟨_, _, Tryz.underlying152, rfl, rfl, rfl⟩⟩
instance fld152_4 : Fld Tryz.prog 152 4 4 5 := ⟨⟨_, _, Tryz.underlying152, rfl, rfl, rfl⟩⟩
instance fld152_5 : Fld Tryz.prog 152 5 5 5 := ⟨⟨_, _, Tryz.underlying152, rfl, rfl, rfl⟩⟩
instance fld152_6 : Fld Tryz.prog 152 6 6 147 := ⟨⟨_, _, Tryz.underlying152, rfl, rfl, rfl⟩⟩
instance fld152_7 : Fld Tryz.prog 152 7 7 148 := ⟨⟨_, _, Tryz.underlying152, rfl, rfl, rfl⟩⟩
instance fld152_8 : Fld Tryz.prog 152 8 8 78 := ⟨⟨_, _, Tryz.underlying152, rfl, rfl, rfl⟩⟩
instance fld152_9 : Fld Tryz.prog 152 9 9 149 := ⟨⟨_, _, Tryz.underlying152, rfl, rfl, rfl⟩⟩
instance fld152_10 : Fld Tryz.prog 152 10 10 150 := ⟨⟨_, _, Tryz.underlying152, rfl, rfl, rfl⟩⟩
instance elt152 : ElT Tryz.prog 152 11 48 true (.agg #[.int .u64 0, .int .u64 0, .int .u32 0, .int .u8 0, .int .u8 0, .int .u8 0, .int .u8 0, .nilFunc, .pointer none, .int .i32 0, .int .i32 0]) := ElT.mk' (by kernel_rfl) rfl (by kernel_rfl)
instance cal2 : Callable Tryz.prog 2 := ⟨⟨_, Tryz.func2, by kernel_rfl, rfl⟩⟩
instance cal3 : Callable Tryz.prog 3 := ⟨⟨_, Tryz.func3, by kernel_rfl, rfl⟩⟩
instance cal4 : Callable Tryz.prog 4 := ⟨⟨_, Tryz.func4, by kernel_rfl, rfl⟩⟩
instance cal5 : Callable Tryz.prog 5 := ⟨⟨_, Tryz.func5, by kernel_rfl, rfl⟩⟩
instance cal6 : Callable Tryz.prog 6 := ⟨⟨_, Tryz.func6, by kernel_rfl, rfl⟩⟩
instance cal7 : Callable Tryz.prog 7 := ⟨⟨_, Tryz.func7, by kernel_rfl, rfl⟩⟩
instance cal8 : Callable Tryz.prog 8 := ⟨⟨_, Tryz.func8, by kernel_rfl, rfl⟩⟩
instance cal9 : Callable Tryz.prog 9 := ⟨⟨_, Tryz.func9, by kernel_rfl, rfl⟩⟩
instance cal10 : Callable Tryz.prog 10 := ⟨⟨_, Tryz.func10, by kernel_rfl, rfl⟩⟩
instance cal11 : Callable Tryz.prog 11 := ⟨⟨_, Tryz.func11, by kernel_rfl, rfl⟩⟩
instance cal12 : Callable Tryz.prog 12 := ⟨⟨_, Tryz.func12, by kernel_rfl, rfl⟩⟩
instance cal13 : Callable Tryz.prog 13 := ⟨⟨_, Tryz.func13, by kernel_rfl, rfl⟩⟩
instance cal14 : Callable Tryz.prog 14 := ⟨⟨_, Tryz.func14, by kernel_rfl, rfl⟩⟩
instance cal15 : Callable Tryz.prog 15 := ⟨⟨_, Tryz.func15, by kernel_rfl, rfl⟩⟩
instance cal16 : Callable Tryz.prog 16 := ⟨⟨_, Tryz.func16, by kernel_rfl, rfl⟩⟩
instance cal17 : Callable Tryz.prog 17 := ⟨⟨_, Tryz.func17, by kernel_rfl, rfl⟩⟩
instance cal18 : Callable Tryz.prog 18 := ⟨⟨_, Tryz.func18, by kernel_rfl, rfl⟩⟩
instance cal19 : Callable Tryz.prog 19 := ⟨⟨_, Tryz.func19, by kernel_rfl, rfl⟩⟩
instance cal20 : Callable Tryz.prog 20 := ⟨⟨_, Tryz.func20, by kernel_rfl, rfl⟩⟩
instance cal21 : Callable Tryz.prog 21 := ⟨⟨_, Tryz.func21, by kernel_rfl, rfl⟩⟩
instance cal22 : Callable Tryz.prog 22 := ⟨⟨_, Tryz.func22, by kernel_rfl, rfl⟩⟩
instance cal23 : Callable Tryz.prog 23 := ⟨⟨_, Tryz.func23, by kernel_rfl, rfl⟩⟩
instance cal24 : Callable Tryz.prog 24 := ⟨⟨_, Tryz.func24, by kernel_rfl, rfl⟩⟩
instance cal25 : Callable Tryz.prog 25 := ⟨⟨_, Tryz.func25, by kernel_rfl, rfl⟩⟩
instance cal26 : Callable Tryz.prog 26 := ⟨⟨_, Tryz.func26, by kernel_rfl, rfl⟩⟩
instance cal27 : Callable Tryz.prog 27 := ⟨⟨_, Tryz.func27, by kernel_rfl, rfl⟩⟩
instance cal28 : Callable Tryz.prog 28 := ⟨⟨_, Tryz.func28, by kernel_rfl, rfl⟩⟩
instance cal29 : Callable Tryz.prog 29 := ⟨⟨_, Tryz.func29, by kernel_rfl, rfl⟩⟩
instance cal30 : Callable Tryz.prog 30 := ⟨⟨_, Tryz.func30, by kernel_rfl, rfl⟩⟩
instance cal31 : Callable Tryz.prog 31 := ⟨⟨_, Tryz.func31, by kernel_rfl, rfl⟩⟩
instance cal32 : Callable Tryz.prog 32 := ⟨⟨_, Tryz.func32, by kernel_rfl, rfl⟩⟩
instance cal33 : Callable Tryz.prog 33 := ⟨⟨_, Tryz.func33, by kernel_rfl, rfl⟩⟩
instance cal34 : Callable Tryz.prog 34 := ⟨⟨_, Tryz.func34, by kernel_rfl, rfl⟩⟩
instance cal35 : Callable Tryz.prog 35 := ⟨⟨_, Tryz.func35, by kernel_rfl, rfl⟩⟩
instance cal36 : Callable Tryz.prog 36 := ⟨⟨_, Tryz.func36, by kernel_rfl, rfl⟩⟩
instance cal37 : Callable Tryz.prog 37 := ⟨⟨_, Tryz.func37, by kernel_rfl, rfl⟩⟩
instance cal38 : Callable Tryz.prog 38 := ⟨⟨_, Tryz.func38, by kernel_rfl, rfl⟩⟩
instance cal39 : Callable Tryz.prog 39 := ⟨⟨_, Tryz.func39, by kernel_rfl, rfl⟩⟩
instance cal40 : Callable Tryz.prog 40 := ⟨⟨_, Tryz.func40, by kernel_rfl, rfl⟩⟩
instance cal41 : Callable Tryz.prog 41 := ⟨⟨_, Tryz.func41, by kernel_rfl, rfl⟩⟩
instance cal42 : Callable Tryz.prog 42 := ⟨⟨_, Tryz.func42, by kernel_rfl, rfl⟩⟩
instance cal43 : Callable Tryz.prog 43 := ⟨⟨_, Tryz.func43, by kernel_rfl, rfl⟩⟩
instance cal44 : Callable Tryz.prog 44 := ⟨⟨_, Tryz.func44, by kernel_rfl, rfl⟩⟩
instance cal45 : Callable Tryz.prog 45 := ⟨⟨_, Tryz.func45, by kernel_rfl, rfl⟩⟩
instance cal46 : Callable Tryz.prog 46 := ⟨⟨_, Tryz.func46, by kernel_rfl, rfl⟩⟩
instance cal47 : Callable Tryz.prog 47 := ⟨⟨_, Tryz.func47, by kernel_rfl, rfl⟩⟩
instance cal48 : Callable Tryz.prog 48 := ⟨⟨_, Tryz.func48, by kernel_rfl, rfl⟩⟩
instance cal49 : Callable Tryz.prog 49 := ⟨⟨_, Tryz.func49, by kernel_rfl, rfl⟩⟩
instance cal50 : Callable Tryz.prog 50 := ⟨⟨_, Tryz.func50, by kernel_rfl, rfl⟩⟩
instance cal51 : Callable Tryz.prog 51 := ⟨⟨_, Tryz.func51, by kernel_rfl, rfl⟩⟩
instance cal52 : Callable Tryz.prog 52 := ⟨⟨_, Tryz.func52, by kernel_rfl, rfl⟩⟩
instance cal53 : Callable Tryz.prog 53 := ⟨⟨_, Tryz.func53, by kernel_rfl, rfl⟩⟩
instance cal54 : Callable Tryz.prog 54 := ⟨⟨_, Tryz.func54, by kernel_rfl, rfl⟩⟩
instance cal55 : Callable Tryz.prog 55 := ⟨⟨_, Tryz.func55, by kernel_rfl, rfl⟩⟩
instance cal57 : Callable Tryz.prog 57 := ⟨⟨_, Tryz.func57, by kernel_rfl, rfl⟩⟩
instance cal58 : Callable Tryz.prog 58 := ⟨⟨_, Tryz.func58, by kernel_rfl, rfl⟩⟩
instance cal59 : Callable Tryz.prog 59 := ⟨⟨_, Tryz.func59, by kernel_rfl, rfl⟩⟩
instance cal60 : Callable Tryz.prog 60 := ⟨⟨_, Tryz.func60, by kernel_rfl, rfl⟩⟩
instance cal61 : Callable Tryz.prog 61 := ⟨⟨_, Tryz.func61, by kernel_rfl, rfl⟩⟩
instance cal62 : Callable Tryz.prog 62 := ⟨⟨_, Tryz.func62, by kernel_rfl, rfl⟩⟩
instance cal63 : Callable Tryz.prog 63 := ⟨⟨_, Tryz.func63, by kernel_rfl, rfl⟩⟩
instance cal64 : Callable Tryz.prog 64 := ⟨⟨_, Tryz.func64, by kernel_rfl, rfl⟩⟩
instance cal65 : Callable Tryz.prog 65 := ⟨⟨_, Tryz.func65, by kernel_rfl, rfl⟩⟩
instance cal66 : Callable Tryz.prog 66 := ⟨⟨_, Tryz.func66, by kernel_rfl, rfl⟩⟩
instance cal67 : Callable Tryz.prog 67 := ⟨⟨_, Tryz.func67, by kernel_rfl, rfl⟩⟩
instance cal69 : Callable Tryz.prog 69 := ⟨⟨_, Tryz.func69, by kernel_rfl, rfl⟩⟩
instance cal70 : Callable Tryz.prog 70 := ⟨⟨_, Tryz.func70, by kernel_rfl, rfl⟩⟩
instance cal71 : Callable Tryz.prog 71 := ⟨⟨_, Tryz.func71, by kernel_rfl, rfl⟩⟩
instance cal72 : Callable Tryz.prog 72 := ⟨⟨_, Tryz.func72, by kernel_rfl, rfl⟩⟩
instance cal73 : Callable Tryz.prog 73 := ⟨⟨_, Tryz.func73, by kernel_rfl, rfl⟩⟩
instance cal74 : Callable Tryz.prog 74 := ⟨⟨_, Tryz.func74, by kernel_rfl, rfl⟩⟩
instance cal75 : Callable Tryz.prog 75 := ⟨⟨_, Tryz.func75, by kernel_rfl, rfl⟩⟩
instance cal76 : Callable Tryz.prog 76 := ⟨⟨_, Tryz.func76, by kernel_rfl, rfl⟩⟩
instance cal77 : Callable Tryz.prog 77 := ⟨⟨_, Tryz.func77, by kernel_rfl, rfl⟩⟩
instance cal78 : Callable Tryz.prog 78 := ⟨⟨_, Tryz.func78, by kernel_rfl, rfl⟩⟩
instance cal79 : Callable Tryz.prog 79 := ⟨⟨_, Tryz.func79, by kernel_rfl, rfl⟩⟩
instance cal80 : Callable Tryz.prog 80 := ⟨⟨_, Tryz.func80, by kernel_rfl, rfl⟩⟩
instance cal81 : Callable Tryz.prog 81 := ⟨⟨_, Tryz.func81, by kernel_rfl, rfl⟩⟩
instance cal82 : Callable Tryz.prog 82 := ⟨⟨_, Tryz.func82, by kernel_rfl, rfl⟩⟩
instance cal83 : Callable Tryz.prog 83 := ⟨⟨_, Tryz.func83, by kernel_rfl, rfl⟩⟩
instance cal84 : Callable Tryz.prog 84 := ⟨⟨_, Tryz.func84, by kernel_rfl, rfl⟩⟩
instance cal85 : Callable Tryz.prog 85 := ⟨⟨_, Tryz.func85, by kernel_rfl, rfl⟩⟩
instance cal86 : Callable Tryz.prog 86 := ⟨⟨_, Tryz.func86, by kernel_rfl, rfl⟩⟩
instance cal87 : Callable Tryz.prog 87 := ⟨⟨_, Tryz.func87, by kernel_rfl, rfl⟩⟩
instance cal88 : Callable Tryz.prog 88 := ⟨⟨_, Tryz.func88, by kernel_rfl, rfl⟩⟩
instance cal89 : Callable Tryz.prog 89 := ⟨⟨_, Tryz.func89, by kernel_rfl, rfl⟩⟩
instance cal90 : Callable Tryz.prog 90 := ⟨⟨_, Tryz.func90, by kernel_rfl, rfl⟩⟩
instance cal91 : Callable Tryz.prog 91 := ⟨⟨_, Tryz.func91, by kernel_rfl, rfl⟩⟩
instance cal92 : Callable Tryz.prog 92 := ⟨⟨_, Tryz.func92, by kernel_rfl, rfl⟩⟩
instance cal93 : Callable Tryz.prog 93 := ⟨⟨_, Tryz.func93, by kernel_rfl, rfl⟩⟩
instance cal94 : Callable Tryz.prog 94 := ⟨⟨_, Tryz.func94, by kernel_rfl, rfl⟩⟩
instance cal95 : Callable Tryz.prog 95 := ⟨⟨_, Tryz.func95, by kernel_rfl, rfl⟩⟩
instance cal96 : Callable Tryz.prog 96 := ⟨⟨_, Tryz.func96, by kernel_rfl, rfl⟩⟩
instance cal97 : Callable Tryz.prog 97 := ⟨⟨_, Tryz.func97, by kernel_rfl, rfl⟩⟩
instance cal98 : Callable Tryz.prog 98 := ⟨⟨_, Tryz.func98, by kernel_rfl, rfl⟩⟩
instance cal99 : Callable Tryz.prog 99 := ⟨⟨_, Tryz.func99, by kernel_rfl, rfl⟩⟩
instance cal100 : Callable Tryz.prog 100 := ⟨⟨_, Tryz.func100, by kernel_rfl, rfl⟩⟩
instance cal101 : Callable Tryz.prog 101 := ⟨⟨_, Tryz.func101, by kernel_rfl, rfl⟩⟩
instance cal102 : Callable Tryz.prog 102 := ⟨⟨_, Tryz.func102, by kernel_rfl, rfl⟩⟩
instance cal103 : Callable Tryz.prog 103 := ⟨⟨_, Tryz.func103, by kernel_rfl, rfl⟩⟩
instance cal105 : Callable Tryz.prog 105 := ⟨⟨_, Tryz.func105, by kernel_rfl, rfl⟩⟩
instance cal106 : Callable Tryz.prog 106 := ⟨⟨_, Tryz.func106, by kernel_rfl, rfl⟩⟩
instance cal137 : Callable Tryz.prog 137 := ⟨⟨_, Tryz.func137, by kernel_rfl, rfl⟩⟩
instance flat7 : Flat Tryz.prog 7 4 := ⟨⟨_, Tryz.underlying7, rfl, by kernel_rfl⟩⟩
instance flat8 : Flat Tryz.prog 8 4 := ⟨⟨_, Tryz.underlying8, rfl, by kernel_rfl⟩⟩
instance flat13 : Flat Tryz.prog 13 2 := ⟨⟨_, Tryz.underlying13, rfl, by kernel_rfl⟩⟩
instance flat14 : Flat Tryz.prog 14 2 := ⟨⟨_, Tryz.underlying14, rfl, by kernel_rfl⟩⟩
instance flat18 : Flat Tryz.prog 18 1 := ⟨⟨_, Tryz.underlying18, rfl, by kernel_rfl⟩⟩
instance flat19 : Flat Tryz.prog 19 1 := ⟨⟨_, Tryz.underlying19, rfl, by kernel_rfl⟩⟩
instance flat23 : Flat Tryz.prog 23 2 := ⟨⟨_, Tryz.underlying23, rfl, by kernel_rfl⟩⟩
instance flat24 : Flat Tryz.prog 24 2 := ⟨⟨_, Tryz.underlying24, rfl, by kernel_rfl⟩⟩
instance flat28 : Flat Tryz.prog 28 2 := ⟨⟨_, Tryz.underlying28, rfl, by kernel_rfl⟩⟩
instance flat50 : Flat Tryz.prog 50 1 := ⟨⟨_, Tryz.underlying50, rfl, by kernel_rfl⟩⟩
instance flat51 : Flat Tryz.prog 51 1 := ⟨⟨_, Tryz.underlying51, rfl, by kernel_rfl⟩⟩
instance flat61 : Flat Tryz.prog 61 2 := ⟨⟨_, Tryz.underlying61, rfl, by kernel_rfl⟩⟩
instance flat62 : Flat Tryz.prog 62 2 := ⟨⟨_, Tryz.underlying62, rfl, by kernel_rfl⟩⟩
instance flat94 : Flat Tryz.prog 94 2 := ⟨⟨_, Tryz.underlying94, rfl, by kernel_rfl⟩⟩
instance flat95 : Flat Tryz.prog 95 2 := ⟨⟨_, Tryz.underlying95, rfl, by kernel_rfl⟩⟩
instance flat116 : Flat Tryz.prog 116 3 := ⟨⟨_, Tryz.underlying116, rfl, by kernel_rfl⟩⟩
instance flat117 : Flat Tryz.prog 117 3 := ⟨⟨_, Tryz.underlying117, rfl, by kernel_rfl⟩⟩
instance flat129 : Flat Tryz.prog 129 1 := ⟨⟨_, Tryz.underlying129, rfl, by kernel_rfl⟩⟩
instance flat130 : Flat Tryz.prog 130 1 := ⟨⟨_, Tryz.underlying130, rfl, by kernel_rfl⟩⟩
instance flat132 : Flat Tryz.prog 132 2 := ⟨⟨_, Tryz.underlying132, rfl, by kernel_rfl⟩⟩
instance flat133 : Flat Tryz.prog 133 2 := ⟨⟨_, Tryz.underlying133, rfl, by kernel_rfl⟩⟩
instance flat140 : Flat Tryz.prog 140 4 := ⟨⟨_, Tryz.underlying140, rfl, by kernel_rfl⟩⟩
instance flat141 : Flat Tryz.prog 141 4 := ⟨⟨_, Tryz.underlying141, rfl, by kernel_rfl⟩⟩
instance flat151 : Flat Tryz.prog 151 11 := ⟨⟨_, Tryz.underlying151, rfl, by kernel_rfl⟩⟩
instance flat152 : Flat Tryz.prog 152 11 := ⟨⟨_, Tryz.underlying152, rfl, by kernel_rfl⟩⟩
end Go.Proofs.YtpnpllghabbhlaaGreatDoor
