/-
  The generic walking kit of this claim: frames as functions from slots to values, one lemma an operation, rules for code. It speaks of any program and proves no statement of the seat by itself.
-/
import Derived.WalkKit
import Derived.Below
import Derived.Laws.AppendOwn
import Derived.Laws.BytesArg
import Derived.Laws.OwnMore
import Derived.Laws.MakeOwn
import Derived.Deep.DeepMust
import Derived.WalkLawsBesides
import Derived.Scope
namespace Go.Proofs.YtjpebmgllfiloaaDoor.Wk
open Go Go.RowKit

/-- What a type is, and that a function can be called: found by instance. -/
class Und (P : Program) (t : TypeId) (u : outParam TypeDesc) : Prop where
  h : P.underlying t = some u

/-! ### Frames -/
abbrev Fr := Nat → Value
def upd (F : Fr) (d : Nat) (v : Value) : Fr := fun k => match Nat.beq k d with | true => v | false => F k
def arr (n : Nat) (F : Fr) : Array Value := ((List.range n).map F).toArray
def ofArgs (l : List Value) : Fr := fun k => l.getD k undef
def ev (n : Nat) (F : Fr) : Operand → Value
  | .tmp t => match Nat.blt t n with | true => F t | false => undef
  | .const v => v
  | .global g => .pointer (some ⟨g, 0, none⟩)
  | .func f => .func (.func f) #[] #[]

theorem arr_size (n : Nat) (F : Fr) : (arr n F).size = n := by simp [arr]
theorem arr_get (n : Nat) (F : Fr) (k : Nat) : (arr n F)[k]? = if k < n then some (F k) else none := by
  simp only [arr, List.getElem?_toArray, List.getElem?_map]
  by_cases h : k < n
  · rw [if_pos h, List.getElem?_range h]; rfl
  · rw [if_neg h, List.getElem?_eq_none (by simp; omega)]; rfl
theorem upd_eq (F : Fr) (d : Nat) (v : Value) (k : Nat) : upd F d v k = if k = d then v else F k := by
  unfold upd
  cases h : Nat.beq k d
  · have := Nat.ne_of_beq_eq_false h; simp [this]
  · have := Nat.eq_of_beq_eq_true h; simp [this]
theorem arr_put (n : Nat) (F : Fr) (d : Nat) (v : Value) : (arr n F).setIfInBounds d v = arr n (upd F d v) := by
  apply Array.ext_getElem?
  intro i
  rw [Array.getElem?_setIfInBounds, arr_get, arr_get, arr_size, upd_eq]
  by_cases h : d = i
  · subst h; by_cases h2 : d < n <;> simp [h2]
  · rw [if_neg h]; split
    · rw [if_neg (fun e => h e.symm)]
    · rfl
def act (n : Nat) (ds : List Deferred) (F : Fr) : Act := ⟨arr n F, ds⟩
theorem act_put {n : Nat} {ds : List Deferred} {F : Fr} {d : Nat} {v : Value} : (act n ds F).put (some d) v = act n ds (upd F d v) := by
  simp [act, Act.put, arr_put]
theorem act_none {n : Nat} {ds : List Deferred} {F : Fr} {v : Value} : (act n ds F).put none v = act n ds F := rfl
theorem act_eval {n : Nat} {ds : List Deferred} {F : Fr} {x : Operand} : (act n ds F).eval x = ev n F x := by
  cases x with
  | tmp t =>
    simp only [act, Act.eval, ev, Array.getD_eq_getD_getElem?, arr_get]
    by_cases h : t < n
    · rw [if_pos h, show Nat.blt t n = true by rw [Nat.blt_eq]; exact h]; rfl
    · rw [if_neg h]
      have : Nat.blt t n = false := by rw [Bool.eq_false_iff]; intro e; rw [Nat.blt_eq] at e; exact h e
      rw [this]; rfl
  | _ => rfl
theorem act_eval' {n : Nat} {ds : List Deferred} {F : Fr} : (act n ds F).eval = ev n F := funext fun _ => act_eval
theorem act_ofArgs (l : List Value) (n : Nat) (h : l.length ≤ n) : ({ tmps := l.toArray ++ Array.replicate (n - l.toArray.size) undef, defers := [] } : Act) = act n [] (ofArgs l) := by
  simp only [act, Act.mk.injEq, and_true]
  apply Array.ext_getElem?
  intro i
  rw [arr_get]
  simp only [ofArgs, Array.getElem?_append, List.size_toArray, List.getElem?_toArray, Array.getElem?_replicate]
  by_cases h1 : i < l.length
  · rw [if_pos h1, if_pos (by omega)]; simp [List.getD_eq_getElem?_getD, List.getElem?_eq_getElem h1]
  · rw [if_neg h1]
    by_cases h2 : i < n
    · rw [if_pos h2, if_pos (by omega)]; simp [List.getD_eq_getElem?_getD, List.getElem?_eq_none (Nat.not_lt.1 h1)]
    · rw [if_neg h2, if_neg (by omega)]

/-! ### Code -/
abbrev Po := Exit → Fr → World → Prop
def QA (n : Nat) (ds : List Deferred) (Q : Po) : Exit → Act → World → Prop := fun e a w => ∃ F, a = act n ds F ∧ Q e F w
def Wc (P : Program) (n : Nat) (ds : List Deferred) (Q : Po) (c : Code) (F : Fr) (w : World) : Prop := c.wp P (QA n ds Q) (act n ds F) w
def Wl (P : Program) (n : Nat) (ds : List Deferred) (Q : Po) (ops : List Oper) (l : List Oper) (F : Fr) (w : World) : Prop := wpList P ops.toArray (QA n ds Q) l (act n ds F) w

def Qseq (P : Program) (n : Nat) (ds : List Deferred) (b : Code) (Q : Po) : Po
  | .normal, F, w => Wc P n ds Q b F w
  | e, F, w => Q e F w
def Qblk (id : Nat) (Q : Po) : Po
  | .exit j, F, w => if j = id then Q .normal F w else Q (.exit j) F w
  | e, F, w => Q e F w

section
variable {P : Program} {n : Nat} {ds : List Deferred} {Q : Po} {F : Fr} {w : World}
theorem Wc.seq {a b : Code} (h : Wc P n ds (Qseq P n ds b Q) a F w) : Wc P n ds Q (.seq a b) F w := by
  refine wp_seq (wp_mono h ?_)
  rintro e a' w' ⟨F', rfl, hq⟩
  cases e <;> first | exact hq | exact ⟨F', rfl, hq⟩
theorem Wc.region {id : Nat} {l : List Oper} (h : Wl P n ds Q l l F w) : Wc P n ds Q (.region id l.toArray false) F w := wp_region_lit h
theorem Wc.block {id : Nat} {c : Code} (h : Wc P n ds (Qblk id Q) c F w) : Wc P n ds Q (.block id c) F w := by
  refine wp_block (wp_mono h ?_)
  rintro e a' w' ⟨F', rfl, hq⟩
  cases e with
  | exit j =>
    simp only [Qblk] at hq
    simp only [Exit.inBlock]
    split <;> rename_i hj
    · rw [if_pos hj] at hq; exact ⟨F', rfl, hq⟩
    · rw [if_neg hj] at hq; exact ⟨F', rfl, hq⟩
  | _ => exact ⟨F', rfl, hq⟩
theorem Wc.skip (h : Q .normal F w) : Wc P n ds Q .skip F w := wp_skip ⟨F, rfl, h⟩
theorem Wc.exit {id : Nat} (h : Q (.exit id) F w) : Wc P n ds Q (.exit id) F w := wp_exit ⟨F, rfl, h⟩
theorem Wc.ret (h : Q .ret F w) : Wc P n ds Q .ret F w := wp_ret ⟨F, rfl, h⟩
theorem Wc.cond {c : Operand} {x y : Code} {t : Bool} (hc : ev n F c = .bool t) (ht : t = true → Wc P n ds Q x F w) (hf : t = false → Wc P n ds Q y F w) : Wc P n ds Q (.cond c x y) F w :=
  wp_cond_split (act_eval.trans hc) ht hf
theorem Wc.condT {c : Operand} {x y : Code} (hc : ev n F c = .bool true) (h : Wc P n ds Q x F w) : Wc P n ds Q (.cond c x y) F w := wp_cond_true (act_eval.trans hc) h
theorem Wc.condF {c : Operand} {x y : Code} (hc : ev n F c = .bool false) (h : Wc P n ds Q y F w) : Wc P n ds Q (.cond c x y) F w := wp_cond_false (act_eval.trans hc) h
theorem Qseq.normal {b : Code} (h : Wc P n ds Q b F w) : Qseq P n ds b Q .normal F w := h
theorem Qseq.exit {b : Code} {id : Nat} (h : Q (.exit id) F w) : Qseq P n ds b Q (.exit id) F w := h
theorem Qseq.ret {b : Code} (h : Q .ret F w) : Qseq P n ds b Q .ret F w := h
theorem Qseq.panic {b : Code} {c : List PanicEntry} (h : Q (.panic c) F w) : Qseq P n ds b Q (.panic c) F w := h
theorem Qblk.normal {id : Nat} (h : Q .normal F w) : Qblk id Q .normal F w := h
theorem Qblk.ret {id : Nat} (h : Q .ret F w) : Qblk id Q .ret F w := h
theorem Qblk.panic {id : Nat} {c : List PanicEntry} (h : Q (.panic c) F w) : Qblk id Q (.panic c) F w := h
theorem Qblk.hit {id : Nat} (h : Q .normal F w) : Qblk id Q (.exit id) F w := by simp only [Qblk, if_pos]; exact h
theorem Qblk.miss {id j : Nat} (hj : Nat.beq j id = false) (h : Q (.exit j) F w) : Qblk id Q (.exit j) F w := by
  simp only [Qblk]; rw [if_neg (Nat.ne_of_beq_eq_false hj)]; exact h

/-- A body with a label in it that no jump goes to. -/
def Qsc (Q : Po) : Po
  | .goto _, _, _ => False
  | e, F, w => Q e F w
theorem Wc.scope {c : Code} (h : Wc P n ds (Qsc Q) c F w) : Wc P n ds Q (.scope c) F w := by
  refine wp_scope_straight (wp_mono h ?_)
  rintro e a' w' ⟨F', rfl, hq⟩
  cases e <;> first | exact ⟨F', rfl, hq⟩ | exact hq.elim
theorem Wc.label {l : Nat} (h : Q .normal F w) : Wc P n ds Q (.label l) F w := wp_label ⟨F, rfl, h⟩
theorem Qsc.normal (h : Q .normal F w) : Qsc Q .normal F w := h
theorem Qsc.exit {id : Nat} (h : Q (.exit id) F w) : Qsc Q (.exit id) F w := h
theorem Qsc.ret (h : Q .ret F w) : Qsc Q .ret F w := h

/-! The least number with a property. -/
theorem exists_least {p : Nat → Prop} (h : ∃ m, p m) : ∃ m, p m ∧ ∀ m', p m' → m ≤ m' := by
  obtain ⟨m, hm⟩ := h
  induction m using Nat.strongRecOn with
  | ind m ih =>
    by_cases hlt : ∃ m', p m' ∧ m' < m
    · obtain ⟨m', hj, hl⟩ := hlt; exact ih m' hl hj
    · exact ⟨m, hm, fun m' hj => Nat.not_lt.1 fun hl => hlt ⟨m', hj, hl⟩⟩
noncomputable def least (p : Nat → Prop) : Nat := Classical.epsilon fun m => p m ∧ ∀ m', p m' → m ≤ m'
theorem least_spec {p : Nat → Prop} (h : ∃ m, p m) : p (least p) ∧ ∀ m', p m' → least p ≤ m' := Classical.epsilon_spec (exists_least h)

/-! A loop: ghost states, what slots hold in each, an invariant, a measure. -/
def upds (F : Fr) : List (Nat × Value) → Fr
  | [] => F
  | (d, v) :: r => upd (upds F r) d v
def agrees (F : Fr) : List (Nat × Value) → Prop
  | [] => True
  | (d, v) :: r => F d = v ∧ agrees F r
theorem upd_self {F : Fr} {d : Nat} {v : Value} (h : F d = v) : upd F d v = F := by
  funext k; rw [upd_eq]; split
  · rename_i e; rw [e, h]
  · rfl
theorem upds_of_agrees {F : Fr} : ∀ {l : List (Nat × Value)}, agrees F l → upds F l = F
  | [], _ => rfl
  | (d, v) :: r, h => by simp only [upds, upds_of_agrees h.2]; exact upd_self h.1
def Qloop {σ : Type} (S : σ → List (Nat × Value)) (I : σ → World → Prop) (μ : σ → Nat) (s : σ) (Q : Po) : Po
  | .normal, F, w => ∃ s', agrees F (S s') ∧ I s' w ∧ μ s' < μ s
  | e, F, w => Q e F w
theorem Wc.loop {σ : Type} (S : σ → List (Nat × Value)) (I : σ → World → Prop) (μ : σ → Nat) (s0 : σ) {c : Code}
    (hF : agrees F (S s0)) (h0 : I s0 w) (step : ∀ s G w, I s w → Wc P n ds (Qloop S I μ s Q) c (upds G (S s)) w) : Wc P n ds Q (.loop c) F w := by
  let J : Act → World → Nat → Prop := fun a w m => ∃ s F, a = act n ds F ∧ agrees F (S s) ∧ I s w ∧ μ s = m
  refine wp_loop (fun a w => ∃ m, J a w m) (fun a w => least (J a w)) ⟨_, s0, F, rfl, hF, h0, rfl⟩ ?_
  intro a w hJ
  obtain ⟨⟨s, F, ha, h1, h2, h3⟩, _⟩ := least_spec hJ
  subst ha
  have := step s F w h2
  rw [upds_of_agrees h1] at this
  refine wp_mono this ?_
  rintro e a' w' ⟨F', rfl, hq⟩
  cases e with
  | normal =>
    obtain ⟨s', h1', h2', h3'⟩ := hq
    have hJ' : J (act n ds F') w' (μ s') := ⟨s', F', rfl, h1', h2', rfl⟩
    refine ⟨⟨_, hJ'⟩, ?_⟩
    have := (least_spec ⟨_, hJ'⟩).2 _ hJ'
    omega
  | _ => exact ⟨F', rfl, hq⟩
end

/-- A string by its bytes. -/
abbrev vs (l : List UInt8) : Value := .string ⟨l.toArray⟩
abbrev vi (x : Int) : Value := .int .i64 x
abbrev vb (l : List UInt8) : List Value := l.map fun b => .int .u8 b.toNat

/-- A contract's post: it returned a value of which this is known. -/
def Ret (φ : Value → World → Prop) : Ending → World → Prop := fun e w => ∃ v, e = .returned v ∧ φ v w

def updO (F : Fr) : Option Nat → Value → Fr
  | some d, v => upd F d v
  | none, _ => F
theorem act_putO {n : Nat} {ds : List Deferred} {F : Fr} {d : Option Nat} {v : Value} : (act n ds F).put d v = act n ds (updO F d v) := by
  cases d
  · rfl
  · exact act_put

section
variable {P : Program} {n : Nat} {ds : List Deferred} {Q : Po} {F : Fr} {w w' : World} {ops rest : List Oper} {d d1 d2 : Nat} {ty ty1 ty2 : TypeId} {pos pos1 pos2 : String} {aft aft1 aft2 : Array Edge}

theorem Wl.nil (h : Q .normal F w) : Wl P n ds Q ops [] F w := ⟨F, rfl, h⟩
/-- An operation that yields a value. -/
theorem Wl.valO {dst : Option Nat} {op : Op} {v : Value} (hr : (execOp (ev n F) ⟨dst, op, ty, pos, aft, none⟩).run P w = .ok (.value v) w')
    (k : Wl P n ds Q ops rest (updO F dst v) w') : Wl P n ds Q ops (⟨dst, op, ty, pos, aft, none⟩ :: rest) F w := by
  refine wpList_plain rfl fun K hK => ?_
  unfold Oper.wp
  rw [act_eval', hr, Oper.upon_value]
  refine hK _ _ ?_
  rw [act_putO]
  exact k
theorem Wl.val {op : Op} {v : Value} (hr : (execOp (ev n F) ⟨some d, op, ty, pos, aft, none⟩).run P w = .ok (.value v) w')
    (k : Wl P n ds Q ops rest (upd F d v) w') : Wl P n ds Q ops (⟨some d, op, ty, pos, aft, none⟩ :: rest) F w := Wl.valO hr k
theorem Wl.unit {op : Op} (hr : (execOp (ev n F) ⟨none, op, ty, pos, aft, none⟩).run P w = .ok .skip w')
    (k : Wl P n ds Q ops rest F w') : Wl P n ds Q ops (⟨none, op, ty, pos, aft, none⟩ :: rest) F w := by
  refine wpList_plain rfl fun K hK => ?_
  unfold Oper.wp
  rw [act_eval', hr, Oper.upon_skip]
  exact hK _ _ k

/-! Guards. -/
def yld (ops : List Oper) (n : Nat) (F : Fr) (j : Nat) : Option Bool :=
  match (ops[j]?).bind (·.dst) with
  | some d => match Nat.blt d n with
    | true => match F d with | .bool b => some b | _ => none
    | false => none
  | none => none
theorem yielded_eq {j : Nat} : yielded ops.toArray (arr n F) j = yld ops n F j := by
  unfold yielded yld
  simp only [List.getElem?_toArray]
  cases h : (ops[j]?).bind (·.dst) with
  | none => rfl
  | some d =>
    simp only [Option.bind_some, arr_get]
    by_cases hd : d < n
    · rw [if_pos hd, show Nat.blt d n = true by rw [Nat.blt_eq]; exact hd]; cases F d <;> rfl
    · rw [if_neg hd, show Nat.blt d n = false by rw [Bool.eq_false_iff]; intro e; rw [Nat.blt_eq] at e; exact hd e]
theorem Wl.guardY {o : Oper} {j : Nat} {b : Bool} (hg : o.guard = some (j, b)) (hy : yld ops n F j = some b)
    (k : Wl P n ds Q ops ({ o with guard := none } :: rest) F w) : Wl P n ds Q ops (o :: rest) F w := by
  have hw : Region.wanted o (yielded ops.toArray (act n ds F).tmps) = true := by
    simp only [Region.wanted, hg, act, yielded_eq, hy]; simp
  have hw2 : Region.wanted { o with guard := none } (yielded ops.toArray (act n ds F).tmps) = true := rfl
  unfold Wl wpList at k ⊢
  rw [if_pos hw]
  rw [if_pos hw2] at k
  exact k
theorem Wl.guardN {op : Op} {j : Nat} {b c : Bool} (hy : yld ops n F j = some c) (hbc : (c == b) = false)
    (k : Wl P n ds Q ops rest (upd F d undef) w) : Wl P n ds Q ops (⟨some d, op, ty, pos, aft, some (j, b)⟩ :: rest) F w := by
  have hw : Region.wanted ⟨some d, op, ty, pos, aft, some (j, b)⟩ (yielded ops.toArray (act n ds F).tmps) = false := by
    simp only [Region.wanted, act, yielded_eq, hy]; simpa using hbc
  unfold Wl wpList
  rw [if_neg (by rw [hw]; simp), act_put]
  exact k

/-! Plain operations. -/
theorem Wl.move {x : Operand} (k : Wl P n ds Q ops rest (upd F d (ev n F x)) w) : Wl P n ds Q ops (⟨some d, .move x, ty, pos, aft, none⟩ :: rest) F w :=
  Wl.val (by simp [execOp]) k
theorem Wl.assign {x : Operand} (k : Wl P n ds Q ops rest (upd F d (ev n F x)) w) : Wl P n ds Q ops (⟨some d, .assign x, ty, pos, aft, none⟩ :: rest) F w :=
  Wl.val (by simp [execOp]) k
theorem Wl.extract {x : Operand} {i : Nat} {l : List Value} {v : Value} (h : ev n F x = .tuple l.toArray) (hi : l[i]? = some v)
    (k : Wl P n ds Q ops rest (upd F d v) w) : Wl P n ds Q ops (⟨some d, .extract x i, ty, pos, aft, none⟩ :: rest) F w :=
  Wl.val (by simp [execOp, h, Instr.extract, hi]) k
theorem Wl.pickT {c a b : Operand} (h : ev n F c = .bool true) (k : Wl P n ds Q ops rest (upd F d (ev n F a)) w) : Wl P n ds Q ops (⟨some d, .pick c a b, ty, pos, aft, none⟩ :: rest) F w :=
  Wl.val (by simp [execOp, h, asBool]) k
theorem Wl.pickF {c a b : Operand} (h : ev n F c = .bool false) (k : Wl P n ds Q ops rest (upd F d (ev n F b)) w) : Wl P n ds Q ops (⟨some d, .pick c a b, ty, pos, aft, none⟩ :: rest) F w :=
  Wl.val (by simp [execOp, h, asBool]) k
/-! The same, with the value told: frames stay small. -/
theorem Wl.moveE {x : Operand} {v : Value} (h : ev n F x = v) (k : Wl P n ds Q ops rest (upd F d v) w) : Wl P n ds Q ops (⟨some d, .move x, ty, pos, aft, none⟩ :: rest) F w :=
  Wl.move (h ▸ k)
theorem Wl.assignE {x : Operand} {v : Value} (h : ev n F x = v) (k : Wl P n ds Q ops rest (upd F d v) w) : Wl P n ds Q ops (⟨some d, .assign x, ty, pos, aft, none⟩ :: rest) F w :=
  Wl.assign (h ▸ k)
theorem Wl.pickTE {c a b : Operand} {v : Value} (h : ev n F c = .bool true) (h' : ev n F a = v) (k : Wl P n ds Q ops rest (upd F d v) w) : Wl P n ds Q ops (⟨some d, .pick c a b, ty, pos, aft, none⟩ :: rest) F w :=
  Wl.pickT h (h' ▸ k)
theorem Wl.pickFE {c a b : Operand} {v : Value} (h : ev n F c = .bool false) (h' : ev n F b = v) (k : Wl P n ds Q ops rest (upd F d v) w) : Wl P n ds Q ops (⟨some d, .pick c a b, ty, pos, aft, none⟩ :: rest) F w :=
  Wl.pickF h (h' ▸ k)
/-- A frame by the slots that are still wanted. -/
theorem Wl.frame (S : List (Nat × Value)) (h : agrees F S) (k : ∀ G, Wl P n ds Q ops rest (upds G S) w) : Wl P n ds Q ops rest F w := by
  have := k F; rwa [upds_of_agrees h] at this
theorem Wc.frame {c : Code} (S : List (Nat × Value)) (h : agrees F S) (k : ∀ G, Wc P n ds Q c (upds G S) w) : Wc P n ds Q c F w := by
  have := k F; rwa [upds_of_agrees h] at this
theorem Wl.notB {x : Operand} {t : TypeId} {b : Bool} (h : ev n F x = .bool b) (k : Wl P n ds Q ops rest (upd F d (.bool !b)) w) : Wl P n ds Q ops (⟨some d, .unOp .not t x, ty, pos, aft, none⟩ :: rest) F w :=
  Wl.val (by simp [execOp, h, Op.unary]) k

theorem run_eqGuard_int {op : BinOp} {t : TypeId} {x y : Operand} {k k' : IntKind} {a b : Int} : (eqGuard op t x y (.int k a) (.int k' b)).run P w = .ok () w := by
  unfold eqGuard; split <;> simp
theorem run_eqGuard_str {op : BinOp} {t : TypeId} {x y : Operand} {a b : ByteArray} : (eqGuard op t x y (.string a) (.string b)).run P w = .ok () w := by
  unfold eqGuard; split <;> simp
theorem run_eqGuard_bool {op : BinOp} {t : TypeId} {x y : Operand} {a b : Bool} : (eqGuard op t x y (.bool a) (.bool b)).run P w = .ok () w := by
  unfold eqGuard; split <;> simp

section cmp
variable {x y : Operand} {t t' : TypeId} {a b : Int} {k : IntKind}
theorem Wl.cmp {op : BinOp} {r : Bool} (hr : Op.intCmp op a b = pure (.bool r)) (hop : op ≠ .add ∧ op ≠ .sub ∧ op ≠ .mul ∧ op ≠ .quo ∧ op ≠ .rem ∧ op ≠ .and ∧ op ≠ .or ∧ op ≠ .xor ∧ op ≠ .andNot ∧ op ≠ .shl ∧ op ≠ .shr) (hx : ev n F x = .int k a) (hy : ev n F y = .int k b)
    (c : Wl P n ds Q ops rest (upd F d (.bool r)) w) : Wl P n ds Q ops (⟨some d, .binOp op t x y t', ty, pos, aft, none⟩ :: rest) F w := by
  refine Wl.val ?_ c
  simp only [execOp, hx, hy, Sem.run_bind, run_eqGuard_int, Result.andThen_ok]
  have : binOp op t (.int k a) (.int k b) = Op.intCmp op a b := by cases op <;> simp_all [binOp]
  rw [this, hr]; rfl
theorem Wl.lss (hx : ev n F x = .int k a) (hy : ev n F y = .int k b) (ht : a < b → Wl P n ds Q ops rest (upd F d (.bool true)) w) (hf : b ≤ a → Wl P n ds Q ops rest (upd F d (.bool false)) w) :
    Wl P n ds Q ops (⟨some d, .binOp .lss t x y t', ty, pos, aft, none⟩ :: rest) F w := by
  by_cases h : a < b
  · exact Wl.cmp (r := true) (by rw [show Op.intCmp .lss a b = pure (.bool (decide (a < b))) from rfl, decide_eq_true h]) (by simp) hx hy (ht h)
  · exact Wl.cmp (r := false) (by rw [show Op.intCmp .lss a b = pure (.bool (decide (a < b))) from rfl, decide_eq_false h]) (by simp) hx hy (hf (Int.not_lt.1 h))
theorem Wl.leq (hx : ev n F x = .int k a) (hy : ev n F y = .int k b) (ht : a ≤ b → Wl P n ds Q ops rest (upd F d (.bool true)) w) (hf : b < a → Wl P n ds Q ops rest (upd F d (.bool false)) w) :
    Wl P n ds Q ops (⟨some d, .binOp .leq t x y t', ty, pos, aft, none⟩ :: rest) F w := by
  by_cases h : a ≤ b
  · exact Wl.cmp (r := true) (by rw [show Op.intCmp .leq a b = pure (.bool (decide (a ≤ b))) from rfl, decide_eq_true h]) (by simp) hx hy (ht h)
  · exact Wl.cmp (r := false) (by rw [show Op.intCmp .leq a b = pure (.bool (decide (a ≤ b))) from rfl, decide_eq_false h]) (by simp) hx hy (hf (Int.not_le.1 h))
theorem Wl.gtr (hx : ev n F x = .int k a) (hy : ev n F y = .int k b) (ht : b < a → Wl P n ds Q ops rest (upd F d (.bool true)) w) (hf : a ≤ b → Wl P n ds Q ops rest (upd F d (.bool false)) w) :
    Wl P n ds Q ops (⟨some d, .binOp .gtr t x y t', ty, pos, aft, none⟩ :: rest) F w := by
  by_cases h : b < a
  · exact Wl.cmp (r := true) (by rw [show Op.intCmp .gtr a b = pure (.bool (decide (a > b))) from rfl, decide_eq_true h]) (by simp) hx hy (ht h)
  · exact Wl.cmp (r := false) (by rw [show Op.intCmp .gtr a b = pure (.bool (decide (a > b))) from rfl, decide_eq_false h]) (by simp) hx hy (hf (Int.not_lt.1 h))
theorem Wl.geq (hx : ev n F x = .int k a) (hy : ev n F y = .int k b) (ht : b ≤ a → Wl P n ds Q ops rest (upd F d (.bool true)) w) (hf : a < b → Wl P n ds Q ops rest (upd F d (.bool false)) w) :
    Wl P n ds Q ops (⟨some d, .binOp .geq t x y t', ty, pos, aft, none⟩ :: rest) F w := by
  by_cases h : b ≤ a
  · exact Wl.cmp (r := true) (by rw [show Op.intCmp .geq a b = pure (.bool (decide (a ≥ b))) from rfl, decide_eq_true h]) (by simp) hx hy (ht h)
  · exact Wl.cmp (r := false) (by rw [show Op.intCmp .geq a b = pure (.bool (decide (a ≥ b))) from rfl, decide_eq_false h]) (by simp) hx hy (hf (Int.not_le.1 h))
theorem Wl.eql (hx : ev n F x = .int k a) (hy : ev n F y = .int k b) (ht : a = b → Wl P n ds Q ops rest (upd F d (.bool true)) w) (hf : a ≠ b → Wl P n ds Q ops rest (upd F d (.bool false)) w) :
    Wl P n ds Q ops (⟨some d, .binOp .eql t x y t', ty, pos, aft, none⟩ :: rest) F w := by
  by_cases h : a = b
  · exact Wl.cmp (r := true) (by rw [show Op.intCmp .eql a b = pure (.bool (a == b)) from rfl, show (a == b) = true from beq_iff_eq.2 h]) (by simp) hx hy (ht h)
  · exact Wl.cmp (r := false) (by rw [show Op.intCmp .eql a b = pure (.bool (a == b)) from rfl, show (a == b) = false from beq_eq_false_iff_ne.2 h]) (by simp) hx hy (hf h)
theorem Wl.neq (hx : ev n F x = .int k a) (hy : ev n F y = .int k b) (ht : a ≠ b → Wl P n ds Q ops rest (upd F d (.bool true)) w) (hf : a = b → Wl P n ds Q ops rest (upd F d (.bool false)) w) :
    Wl P n ds Q ops (⟨some d, .binOp .neq t x y t', ty, pos, aft, none⟩ :: rest) F w := by
  by_cases h : a = b
  · exact Wl.cmp (r := false) (by rw [show Op.intCmp .neq a b = pure (.bool (a != b)) from rfl, show (a != b) = false from by simpa using h]) (by simp) hx hy (hf h)
  · exact Wl.cmp (r := true) (by rw [show Op.intCmp .neq a b = pure (.bool (a != b)) from rfl, show (a != b) = true from by simpa using h]) (by simp) hx hy (ht h)
end cmp

section str
variable {x y : Operand} {t t' : TypeId} {a b : List UInt8}
theorem Wl.seql (hx : ev n F x = vs a) (hy : ev n F y = vs b) (ht : a = b → Wl P n ds Q ops rest (upd F d (.bool true)) w) (hf : a ≠ b → Wl P n ds Q ops rest (upd F d (.bool false)) w) :
    Wl P n ds Q ops (⟨some d, .binOp .eql t x y t', ty, pos, aft, none⟩ :: rest) F w := by
  by_cases h : a = b
  · exact Wl.val (by simp only [execOp, hx, hy, Sem.run_bind, run_eqGuard_str, Result.andThen_ok, binOp_string_eql, ByteArray.toList_mk, Sem.run_pure, beq_iff_eq.2 h]) (ht h)
  · exact Wl.val (by simp only [execOp, hx, hy, Sem.run_bind, run_eqGuard_str, Result.andThen_ok, binOp_string_eql, ByteArray.toList_mk, Sem.run_pure, beq_eq_false_iff_ne.2 h]) (hf h)
theorem Wl.sneq (hx : ev n F x = vs a) (hy : ev n F y = vs b) (ht : a ≠ b → Wl P n ds Q ops rest (upd F d (.bool true)) w) (hf : a = b → Wl P n ds Q ops rest (upd F d (.bool false)) w) :
    Wl P n ds Q ops (⟨some d, .binOp .neq t x y t', ty, pos, aft, none⟩ :: rest) F w := by
  by_cases h : a = b
  · exact Wl.val (by simp only [execOp, hx, hy, Sem.run_bind, run_eqGuard_str, Result.andThen_ok, binOp_string_neq, ByteArray.toList_mk, Sem.run_pure, beq_iff_eq.2 h, Bool.not_true]) (hf h)
  · exact Wl.val (by simp only [execOp, hx, hy, Sem.run_bind, run_eqGuard_str, Result.andThen_ok, binOp_string_neq, ByteArray.toList_mk, Sem.run_pure, beq_eq_false_iff_ne.2 h, Bool.not_false]) (ht h)
theorem Wl.sneqSame (hx : ev n F x = vs a) (hy : ev n F y = vs a) (h : Wl P n ds Q ops rest (upd F d (.bool false)) w) : Wl P n ds Q ops (⟨some d, .binOp .neq t x y t', ty, pos, aft, none⟩ :: rest) F w :=
  Wl.sneq hx hy (fun e => absurd rfl e) fun _ => h
theorem Wl.seqlSame (hx : ev n F x = vs a) (hy : ev n F y = vs a) (h : Wl P n ds Q ops rest (upd F d (.bool true)) w) : Wl P n ds Q ops (⟨some d, .binOp .eql t x y t', ty, pos, aft, none⟩ :: rest) F w :=
  Wl.seql hx hy (fun _ => h) fun e => absurd rfl e
theorem Wl.sadd (hx : ev n F x = vs a) (hy : ev n F y = vs b) (hb : a.length + b.length ≤ 9223372036854775807) (c : Wl P n ds Q ops rest (upd F d (vs (a ++ b))) w) :
    Wl P n ds Q ops (⟨some d, .binOp .add t x y t', ty, pos, aft, none⟩ :: rest) F w := by
  refine Wl.val ?_ c
  have h1 : ¬ (((a.length + b.length : Nat) : Int) > IntKind.i64.max) := by simp [IntKind.max, IntKind.signed, IntKind.bits]; omega
  have h2 : (⟨a.toArray⟩ : ByteArray) ++ ⟨b.toArray⟩ = ⟨(a ++ b).toArray⟩ := by
    apply ByteArray.ext; simp [ByteArray.data_append]
  simp only [execOp, hx, hy, Sem.run_bind, run_eqGuard_str, Result.andThen_ok, binOp_string_add, Op.stringOp, ByteArray.size, List.size_toArray]
  rw [if_neg h1, h2]; rfl
end str

section arith
variable {x y : Operand} {t t' : TypeId} {a b : Int} {k : IntKind}
theorem wrap64_id {a : Int} (h0 : -9223372036854775808 ≤ a) (h1 : a ≤ 9223372036854775807) : IntKind.i64.wrap a = a := by rw [IntKind.wrap_i64]; omega
theorem Wl.add (hx : ev n F x = .int .i64 a) (hy : ev n F y = .int .i64 b) (h0 : -9223372036854775808 ≤ a + b) (h1 : a + b ≤ 9223372036854775807)
    (c : Wl P n ds Q ops rest (upd F d (.int .i64 (a + b))) w) : Wl P n ds Q ops (⟨some d, .binOp .add t x y t', ty, pos, aft, none⟩ :: rest) F w :=
  Wl.val (by simp [execOp, hx, hy, run_eqGuard_int, binOp, Op.intArith, wrap64_id h0 h1]) c
theorem Wl.sub (hx : ev n F x = .int .i64 a) (hy : ev n F y = .int .i64 b) (h0 : -9223372036854775808 ≤ a - b) (h1 : a - b ≤ 9223372036854775807)
    (c : Wl P n ds Q ops rest (upd F d (.int .i64 (a - b))) w) : Wl P n ds Q ops (⟨some d, .binOp .sub t x y t', ty, pos, aft, none⟩ :: rest) F w :=
  Wl.val (by simp [execOp, hx, hy, run_eqGuard_int, binOp, Op.intArith, wrap64_id h0 h1]) c
theorem Wl.mul (hx : ev n F x = .int .i64 a) (hy : ev n F y = .int .i64 b) (h0 : -9223372036854775808 ≤ a * b) (h1 : a * b ≤ 9223372036854775807)
    (c : Wl P n ds Q ops rest (upd F d (.int .i64 (a * b))) w) : Wl P n ds Q ops (⟨some d, .binOp .mul t x y t', ty, pos, aft, none⟩ :: rest) F w :=
  Wl.val (by simp [execOp, hx, hy, run_eqGuard_int, binOp, Op.intArith, wrap64_id h0 h1]) c
theorem Wl.addW (hx : ev n F x = .int k a) (hy : ev n F y = .int k b)
    (c : Wl P n ds Q ops rest (upd F d (.int k (k.wrap (a + b)))) w) : Wl P n ds Q ops (⟨some d, .binOp .add t x y t', ty, pos, aft, none⟩ :: rest) F w :=
  Wl.val (by simp [execOp, hx, hy, run_eqGuard_int, binOp, Op.intArith]) c
theorem Wl.subW (hx : ev n F x = .int k a) (hy : ev n F y = .int k b)
    (c : Wl P n ds Q ops rest (upd F d (.int k (k.wrap (a - b)))) w) : Wl P n ds Q ops (⟨some d, .binOp .sub t x y t', ty, pos, aft, none⟩ :: rest) F w :=
  Wl.val (by simp [execOp, hx, hy, run_eqGuard_int, binOp, Op.intArith]) c
theorem Wl.mulW (hx : ev n F x = .int k a) (hy : ev n F y = .int k b)
    (c : Wl P n ds Q ops rest (upd F d (.int k (k.wrap (a * b)))) w) : Wl P n ds Q ops (⟨some d, .binOp .mul t x y t', ty, pos, aft, none⟩ :: rest) F w :=
  Wl.val (by simp [execOp, hx, hy, run_eqGuard_int, binOp, Op.intArith]) c
theorem Wl.quoW (hx : ev n F x = .int k a) (hy : ev n F y = .int k b) (h0 : b ≠ 0)
    (c : Wl P n ds Q ops rest (upd F d (.int k (k.wrap (a.tdiv b)))) w) : Wl P n ds Q ops (⟨some d, .binOp .quo t x y t', ty, pos, aft, none⟩ :: rest) F w :=
  Wl.val (by simp [execOp, hx, hy, run_eqGuard_int, binOp, Op.intDiv, h0]) c
theorem Wl.remW (hx : ev n F x = .int k a) (hy : ev n F y = .int k b) (h0 : b ≠ 0)
    (c : Wl P n ds Q ops rest (upd F d (.int k (a.tmod b))) w) : Wl P n ds Q ops (⟨some d, .binOp .rem t x y t', ty, pos, aft, none⟩ :: rest) F w :=
  Wl.val (by simp [execOp, hx, hy, run_eqGuard_int, binOp, Op.intDiv, h0]) c
theorem Wl.shrW {k' : IntKind} (hx : ev n F x = .int k a) (hy : ev n F y = .int k' b) (h0 : 0 ≤ b)
    (c : Wl P n ds Q ops rest (upd F d (.int k (a.fdiv (2 ^ (min b.toNat k.bits))))) w) : Wl P n ds Q ops (⟨some d, .binOp .shr t x y t', ty, pos, aft, none⟩ :: rest) F w :=
  Wl.val (by simp [execOp, hx, hy, run_eqGuard_int, binOp, Op.shift, Int.not_lt.2 h0]) c
theorem Wl.shlW {k' : IntKind} (hx : ev n F x = .int k a) (hy : ev n F y = .int k' b) (h0 : 0 ≤ b)
    (c : Wl P n ds Q ops rest (upd F d (.int k (k.wrap (a * 2 ^ (min b.toNat k.bits))))) w) : Wl P n ds Q ops (⟨some d, .binOp .shl t x y t', ty, pos, aft, none⟩ :: rest) F w :=
  Wl.val (by simp [execOp, hx, hy, run_eqGuard_int, binOp, Op.shift, Int.not_lt.2 h0]) c
theorem Wl.convI {k' : IntKind} {u : TypeDesc} [hu : Und P t' (.int k')] [ht : Und P t u] (hx : ev n F x = .int k a)
    (c : Wl P n ds Q ops rest (upd F d (.int k' (k'.wrap a))) w) : Wl P n ds Q ops (⟨some d, .convert t t' x, ty, pos, aft, none⟩ :: rest) F w := by
  refine Wl.val ?_ c
  simp only [execOp, hx, Sem.run_bind, convert, run_underlying ht.h, run_underlying hu.h, Result.andThen_ok, Conv.intToInt, Sem.run_pure]
end arith

/-! Calls of functions with a body. -/
class Callable (P : Program) (f : FuncId) : Prop where
  ex : ∃ fn, P.funcs[f]? = some fn ∧ (fn.name == "runtime.NumGoroutine") = false ∧ fn.body.isNone = false
theorem run_callFunc {f : FuncId} (hc : Callable P f) (args : Array Value) : (callFunc f args).run P w = .ok (.enter f args) w := by
  obtain ⟨fn, h1, h2, h3⟩ := hc.ex
  have h2' : ¬ fn.name = "runtime.NumGoroutine" := by simpa using h2
  have h3' : ¬ fn.body = none := by intro e; rw [e] at h3; simp at h3
  simp [callFunc, h1, h2', h3']
theorem Wl.callV {dst : Option Nat} {g : Operand} {args : List Operand} {ts : Array TypeId} {f : FuncId} {first cap : Array Value} {vs : List Value} {φ : Value → World → Prop}
    [hc : Callable P f] (hg : ev n F g = .func (.func f) first cap)
    (h : Calls P f vs.toArray w (Ret φ)) (ha : first.toList ++ (args.map (ev n F) ++ cap.toList) = vs) (k : ∀ v w', φ v w' → Wl P n ds Q ops rest (updO F dst v) w') :
    Wl P n ds Q ops (⟨dst, .call { callee := .value g, args := args.toArray, argTypes := ts }, ty, pos, aft, none⟩ :: rest) F w := by
  refine wpList_plain rfl fun K hK => ?_
  unfold Oper.wp
  have e : (execOp (ev n F) ⟨dst, .call { callee := .value g, args := args.toArray, argTypes := ts }, ty, pos, aft, none⟩).run P w = .ok (.enter f vs.toArray) w := by
    subst ha
    simp only [execOp, resolve, hg, Deferred.ofValue, Sem.run_bind, Sem.run_pure, Result.andThen_ok, invoke, run_callFunc hc]
    congr 3
    apply Array.ext'
    simp
  rw [act_eval', e, Oper.upon_enter]
  refine h.mono ?_
  rintro _ w'' ⟨v, rfl, hv⟩
  dsimp only
  refine hK _ _ ?_
  rw [act_putO]
  exact k v w'' hv
theorem Wl.call {args : List Operand} {ts : Array TypeId} {f : FuncId} {vs : List Value} {φ : Value → World → Prop}
    [hc : Callable P f] (h : Calls P f vs.toArray w (Ret φ)) (ha : args.map (ev n F) = vs) (k : ∀ v w', φ v w' → Wl P n ds Q ops rest (upd F d v) w') :
    Wl P n ds Q ops (⟨some d, .call { callee := .value (.func f), args := args.toArray, argTypes := ts }, ty, pos, aft, none⟩ :: rest) F w :=
  Wl.callV (dst := some d) (first := #[]) (cap := #[]) rfl h (by simpa using ha) k
theorem Wl.call0 {args : List Operand} {ts : Array TypeId} {f : FuncId} {vs : List Value} {φ : Value → World → Prop}
    [hc : Callable P f] (h : Calls P f vs.toArray w (Ret φ)) (ha : args.map (ev n F) = vs) (k : ∀ v w', φ v w' → Wl P n ds Q ops rest F w') :
    Wl P n ds Q ops (⟨none, .call { callee := .value (.func f), args := args.toArray, argTypes := ts }, ty, pos, aft, none⟩ :: rest) F w :=
  Wl.callV (dst := none) (first := #[]) (cap := #[]) rfl h (by simpa using ha) k

/-! A function's entry and end. -/
def Qfn (P : Program) (n : Nat) (fn : Func) (R : Ending → World → Prop) : Po
  | .normal, F, w | .ret, F, w => ∃ v, (results fn (arr n F)).run P w = .ok v w ∧ R (.returned v) w
  | .panic chain, _, w => R (.panicked chain) w
  | .outgrown, _, w => R .outgrown w
  | _, _, _ => False
theorem calls_of_Wc {f : FuncId} {fn : Func} {c : Code} {l : List Value} {R : Ending → World → Prop} (hf : P.funcs[f]? = some fn) (hb : fn.body = some c) (hn : fn.ntmps = n)
    (hl : Nat.ble l.length n = true) (h : Wc P n [] (Qfn P n fn R) c (ofArgs l) w) : Calls P f l.toArray w R := by
  refine calls_of_wp hf hb ?_
  rw [hn, act_ofArgs l n (Nat.le_of_ble_eq_true hl)]
  refine wp_mono h ?_
  rintro e a w ⟨F, rfl, hq⟩
  cases e <;> first | exact ⟨rfl, hq⟩ | exact hq
theorem Qfn.ret1 {fn : Func} {R : Ending → World → Prop} {t : Nat} (h : fn.results = #[.tmp t]) (ht : Nat.blt t n = true) (k : R (.returned (F t)) w) : Qfn P n fn R .ret F w := by
  refine ⟨F t, ?_, k⟩
  rw [results_tmp h, Array.getD_eq_getD_getElem?, arr_get, if_pos (by rwa [Nat.blt_eq] at ht)]; rfl
theorem Qfn.ret2 {fn : Func} {R : Ending → World → Prop} {t u : Nat} (h : fn.results = #[.tmp t, .tmp u]) (ht : Nat.blt t n = true) (hu : Nat.blt u n = true) (k : R (.returned (.tuple #[F t, F u])) w) : Qfn P n fn R .ret F w := by
  refine ⟨.tuple #[F t, F u], ?_, k⟩
  rw [results_tmp2 h, Array.getD_eq_getD_getElem?, arr_get, if_pos (by rwa [Nat.blt_eq] at ht), Array.getD_eq_getD_getElem?, arr_get, if_pos (by rwa [Nat.blt_eq] at hu)]; rfl
theorem Qfn.ret3 {fn : Func} {R : Ending → World → Prop} {t u s : Nat} (h : fn.results = #[.tmp t, .tmp u, .tmp s]) (ht : Nat.blt t n = true) (hu : Nat.blt u n = true) (hs : Nat.blt s n = true) (k : R (.returned (.tuple #[F t, F u, F s])) w) : Qfn P n fn R .ret F w := by
  refine ⟨.tuple #[F t, F u, F s], ?_, k⟩
  simp only [results, h]
  simp [arr_get, Array.getD_eq_getD_getElem?, (by rwa [Nat.blt_eq] at ht : t < n), (by rwa [Nat.blt_eq] at hu : u < n), (by rwa [Nat.blt_eq] at hs : s < n)]
theorem Qloop.normal {σ : Type} {S : σ → List (Nat × Value)} {I : σ → World → Prop} {μ : σ → Nat} {s : σ} (s' : σ) (h1 : agrees F (S s')) (h2 : I s' w) (h3 : μ s' < μ s) : Qloop S I μ s Q .normal F w := ⟨s', h1, h2, h3⟩
theorem Qloop.exit {σ : Type} {S : σ → List (Nat × Value)} {I : σ → World → Prop} {μ : σ → Nat} {s : σ} {id : Nat} (h : Q (.exit id) F w) : Qloop S I μ s Q (.exit id) F w := h
theorem Qloop.ret {σ : Type} {S : σ → List (Nat × Value)} {I : σ → World → Prop} {μ : σ → Nat} {s : σ} (h : Q .ret F w) : Qloop S I μ s Q .ret F w := h
theorem Qloop.panic {σ : Type} {S : σ → List (Nat × Value)} {I : σ → World → Prop} {μ : σ → Nat} {s : σ} {c : List PanicEntry} (h : Q (.panic c) F w) : Qloop S I μ s Q (.panic c) F w := h
theorem Qfn.ret0 {fn : Func} {R : Ending → World → Prop} (h : fn.results = #[]) (k : R (.returned (.tuple #[])) w) : Qfn P n fn R .ret F w :=
  ⟨_, results_none h _ _ _, k⟩
theorem Qfn.end0 {fn : Func} {R : Ending → World → Prop} (h : fn.results = #[]) (k : R (.returned (.tuple #[])) w) : Qfn P n fn R .normal F w :=
  ⟨_, results_none h _ _ _, k⟩
end
attribute [irreducible] Wl Wc Qseq Qblk Qfn Qloop Qsc
end Go.Proofs.YtjpebmgllfiloaaDoor.Wk
