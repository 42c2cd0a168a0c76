/-
  Texts of this claim, one behind the other: Rb, Rc, Rf, Rg, Rh, Ri, Rj, Rk, Ea, Ga, Eb, Go, Ec.
-/
import Derived.Test.YtlkhajheecglgaaDoorZc
import Derived.Tactics2
import Derived.Laws.StructEq
import Derived.ChangeSame
import Derived.SizedLaws
namespace Go.Proofs.YtlkhajheecglgaaDoor
open Go Wk
open Go.RowKit (Below)
attribute [local irreducible] Go.Calls

theorem indexByte0 : ∀ l : List UInt8, Lib.indexByte l 0 = (match idx0 l with | some k => (k : Int) | none => -1)
  | [] => rfl
  | c :: r => by
    have ih := indexByte0 r
    unfold idx0 at ih ⊢
    rw [List.findIdx?_cons]
    unfold Lib.indexByte
    cases hc : c == 0 with
    | true => simp
    | false =>
      simp only [Bool.false_eq_true, if_false]
      rw [ih]
      cases r.findIdx? fun c => c == 0 with
      | none => simp
      | some k =>
        simp only [Option.map_some]
        have hne : ¬ ((k : Int) == -1) = true := by
          simp only [beq_iff_eq]; omega
        rw [if_neg hne]
        rfl
def cutV (s : List UInt8) : Value := match idx0 s with
  | some k => .tuple #[vs (s.take k), vs (s.drop (k + 1)), .bool true]
  | none => .tuple #[vs s, vs [], .bool false]
theorem lcut_spec {w : World} {s : List UInt8} (hs : s.length ≤ 9223372036854775806) :
    Calls Tryd.prog 74 #[vs s, vs [0]] w (Ret fun v w' => v = cutV s ∧ New w w') := by
  refine calls_of_Wc Tryd.func74 rfl Tryd.ntmps74 rfl ?_
  (repeat' (first | refine Wl.moveE (by conv => { lhs; whnf }) ?_ | refine Wl.assignE (by conv => { lhs; whnf }) ?_ | refine Wl.nil ?_ | refine Qseq.normal ?_ | refine Wc.seq ?_ | refine Wc.region ?_))
  refine Wl.call (φ := fun v w' => v = vi (Lib.indexByte s 0) ∧ w' = w) ((Tryd.stringslite_Index_one ⟨s.toArray⟩ 0 w).mono ?_) rfl ?_
  · rintro e w' ⟨rfl, rfl⟩
    exact ⟨_, rfl, rfl, rfl⟩
  rintro _ _ ⟨rfl, rfl⟩
  have hi := indexByte0 s
  unfold cutV
  cases h0 : idx0 s with
  | none =>
    rw [h0] at hi
    dsimp only at hi
    rw [hi]
    (repeat' (first | refine Wl.moveE (by conv => { lhs; whnf }) ?_ | refine Wl.assignE (by conv => { lhs; whnf }) ?_ | refine Wl.nil ?_ | refine Qseq.normal ?_ | refine Wc.seq ?_ | refine Wc.region ?_ | refine Wc.skip ?_ | refine Wc.ret ?_ | refine Wc.condF rfl ?_ | (refine Wl.geq rfl rfl (fun _ => ?_) (fun _ => ?_) <;> (first | (exfalso; omega) | skip))))
    exact Qfn.ret3 rfl rfl rfl rfl ⟨_, rfl, rfl, Chg.refl _ _⟩
  | some k =>
    rw [h0] at hi
    dsimp only at hi
    rw [hi]
    have hk := (idx0_some h0).1
    (repeat' (first | refine Wl.moveE (by conv => { lhs; whnf }) ?_ | refine Wl.assignE (by conv => { lhs; whnf }) ?_ | refine Wl.nil ?_ | refine Qseq.normal ?_ | refine Wc.seq ?_ | refine Wc.region ?_ | refine Wc.condT rfl ?_ | (refine Wl.geq rfl rfl (fun _ => ?_) (fun _ => ?_) <;> (first | (exfalso; contradiction) | skip))))
    refine Wc.regionN rfl (by kernel_rfl) ?_
    (repeat' (refine Wq.moveE (by conv => { lhs; whnf }) ?_))
    refine Wq.strTo rfl rfl (by omega) (by omega) ?_
    (repeat' (first | refine Wq.moveE (by conv => { lhs; whnf }) ?_ | refine Wq.lenStr rfl ?_))
    have e1 : ([(0 : UInt8)].length : Int) = 1 := rfl
    rw [e1]
    refine Wq.add rfl rfl (by omega) (by omega) ?_
    refine Wq.strFrom rfl rfl (by omega) (by omega) ?_
    (repeat' (first | refine Wq.assignE (by conv => { lhs; whnf }) ?_ | refine Wq.nil ?_))
    intro w2 n2
    (repeat' (first | refine Qseq.normal ?_ | refine Wc.ret ?_ | refine Qseq.ret ?_))
    refine Qfn.ret3 rfl rfl rfl rfl ⟨_, rfl, ?_, n2⟩
    have e2 : ((k : Int) + 1).toNat = k + 1 := by omega
    dsimp only
    show Value.tuple #[vs (s.take (k : Int).toNat), vs (s.drop ((k : Int) + 1).toNat), .bool true] = _
    rw [e2, Int.toNat_natCast]
theorem cut_spec {w : World} {s : List UInt8} (hs : s.length ≤ 9223372036854775806) :
    Calls Tryd.prog 63 #[vs s, vs [0]] w (Ret fun v w' => v = cutV s ∧ New w w') := by
  refine calls_of_Wc Tryd.func63 rfl Tryd.ntmps63 rfl ?_
  (repeat' (first | refine Wl.moveE (by conv => { lhs; whnf }) ?_ | refine Wl.assignE (by conv => { lhs; whnf }) ?_ | refine Wl.nil ?_ | refine Qseq.normal ?_ | refine Wc.seq ?_ | refine Wc.region ?_))
  refine Wl.call (lcut_spec hs) rfl ?_
  rintro _ w1 ⟨rfl, n1⟩
  unfold cutV
  cases h0 : idx0 s with
  | none =>
    (repeat' (first | refine Wl.assignE (by conv => { lhs; whnf }) ?_ | refine Wl.nil ?_ | refine Wl.extract rfl rfl ?_ | refine Qseq.normal ?_ | refine Wc.ret ?_))
    exact Qfn.ret3 rfl rfl rfl rfl ⟨_, rfl, rfl, n1⟩
  | some k =>
    (repeat' (first | refine Wl.assignE (by conv => { lhs; whnf }) ?_ | refine Wl.nil ?_ | refine Wl.extract rfl rfl ?_ | refine Qseq.normal ?_ | refine Wc.ret ?_))
    exact Qfn.ret3 rfl rfl rfl rfl ⟨_, rfl, rfl, n1⟩
abbrev tProp : TypeId := 41
/-- What prop comes to. -/
def PropX (M : Nat → Prop) (w : World) (b : Nat) (names s : List UInt8) (tp nv : Value) (tb : List Nm) : Ending → World → Prop :=
  RetX (fun v w' => ∃ p tb' s', propM names tb s = some (p, tb', s') ∧ v = .agg (pC p).toArray ∧ Bk w' b tRdr (rdr names s' tp nv) ∧ Tb (fun k => M k ∨ w.heap.size ≤ k ∧ k < w'.heap.size) w' tp tb' ∧ Chg (fun k => k = b ∨ M k) w w')
    (fun c w' => propM names tb s = none ∧ c = formC ∧ Chg (fun k => k = b ∨ M k) w w')
set_option maxRecDepth 4000 in
set_option maxHeartbeats 1000000 in
theorem prop_spec {M : Nat → Prop} {w : World} {b : Nat} {names s : List UInt8} {tp nv : Value} {tb : List Nm} (h : Bk w b tRdr (rdr names s tp nv)) (ht : Tb M w tp tb) (hM : ¬ M b) (hs : s.length ≤ 9223372036854775806) (hn : names.length ≤ 9223372036854775806)
    (htl : tb.length ≤ 100000000000) (htz : sizeN tb ≤ 100000000000) :
    Calls Tryd.prog 57 #[ptrB b] w (PropX M w b names s tp nv tb) := by
  have hbl := h.lt
  have h' := h
  replace ht : Tb (fun k => M k ∧ k < w.heap.size) w tp tb := ht.mono fun k hk e => ⟨e, hk⟩
  have htp := ht
  obtain ⟨tbk, tm, tsl, rfl, _⟩ := htp
  unfold PropX
  refine calls_of_Wc Tryd.func57 rfl Tryd.ntmps57 rfl ?_
  (repeat' (first | refine Wc.seq ?_ | refine Wc.region ?_))
  refine Wl.alloc fun w1 b1 n1 s1 => ?_
  replace b1 : Bk w1 w.heap.size tProp [vs [], vs []] := b1
  have h1 := h.chg n1 id
  have t1 := ht.chg n1 fun _ _ _ e => e
  (repeat' (first | refine Wl.moveE (by conv => { lhs; whnf }) ?_ | refine Wl.nil ?_ | refine Qseq.normal ?_ | refine Wc.seq ?_ | refine Wc.region ?_))
  refine Wl.callX (rcell_spec (most := 1024) h1) rfl ?_ ?_
  · rintro c w2 ⟨hc, rfl, c2⟩
    (repeat' (first | refine Qseq.panic ?_ | refine Qfn.panic ?_))
    refine ⟨?_, rfl, n1.any.trans c2 fun _ _ e => .inl e⟩
    unfold propM
    rw [hc]
  rintro _ w2 ⟨n, s1', hc1, rfl, h2, c2⟩
  have t2 := t1.chg c2 fun k _ hk e => hM (e ▸ hk.1)
  have b2 := b1.chg c2 (by omega)
  have k2 : Chg (fun k => k = b ∨ M k) w w2 := n1.any.trans c2 fun _ _ e => .inl e
  obtain ⟨hs1, hn1, _⟩ := cellM_sound hc1
  have hl1 : s1'.length ≤ s.length := by rw [hs1]; simp
  (repeat' (first | refine Wl.moveE (by conv => { lhs; whnf }) ?_ | refine Wl.assignE (by conv => { lhs; whnf }) ?_ | refine Wl.nil ?_ | refine Qseq.normal ?_ | refine Wc.seq ?_ | refine Wc.region ?_ | refine Wl.nilP rfl ?_ | refine Wl.fieldAddr rfl rfl ?_))
  refine Wl.load1 rfl (h2.cell (o := 1) rfl) ?_
  (repeat' (refine Wl.lenStr rfl ?_))
  refine Wl.callX (rcell_spec (most := names.length) h2) rfl ?_ ?_
  · rintro c w3 ⟨hc, rfl, c3⟩
    (repeat' (first | refine Qseq.panic ?_ | refine Qfn.panic ?_))
    refine ⟨?_, rfl, k2.trans c3 fun _ _ e => .inl e⟩
    unfold propM
    rw [hc1]; dsimp only; rw [hc]
  rintro _ w3 ⟨a, s2', hc2, rfl, h3, c3⟩
  have t3 := t2.chg c3 fun k _ hk e => hM (e ▸ hk.1)
  have b3 := b2.chg c3 (by omega)
  have k3 : Chg (fun k => k = b ∨ M k) w w3 := k2.trans c3 fun _ _ e => .inl e
  obtain ⟨hs2, ha, _⟩ := cellM_sound hc2
  have hl2 : s2'.length ≤ s.length := by have := congrArg List.length hs2; simp at this; omega
  (repeat' (first | refine Wl.moveE (by conv => { lhs; whnf }) ?_ | refine Wl.assignE (by conv => { lhs; whnf }) ?_ | refine Wl.nil ?_ | refine Qseq.normal ?_ | refine Wc.seq ?_ | refine Wc.region ?_ | refine Wl.nilP rfl ?_ | refine Wl.fieldAddr rfl rfl ?_))
  refine Wl.load1 rfl (h3.cell (o := 1) rfl) ?_
  (repeat' (refine Wl.moveE (by conv => { lhs; whnf }) ?_))
  refine Wl.strFrom rfl rfl (by omega) (by omega) ?_
  rw [Int.toNat_natCast]
  refine Wl.call (cut_spec (s := names.drop a) (by rw [List.length_drop]; omega)) rfl ?_
  rintro _ w4 ⟨rfl, n4⟩
  have h4 := h3.chg n4 id
  have t4 := t3.chg n4 fun _ _ _ e => e
  have b4 := b3.chg n4 id
  have k4 : Chg (fun k => k = b ∨ M k) w w4 := k3.trans n4 fun _ _ e => e.elim
  unfold cutV
  cases h0 : idx0 (names.drop a) with
  | none =>
    (repeat' (first | refine Wl.moveE (by conv => { lhs; whnf }) ?_ | refine Wl.assignE (by conv => { lhs; whnf }) ?_ | refine Wl.nil ?_ | refine Wl.extract rfl rfl ?_ | refine Wl.guardN rfl rfl ?_ | refine Wl.pickTE rfl (by conv => { lhs; whnf }) ?_ | refine Wl.notB rfl ?_ | refine Qseq.normal ?_ | refine Wc.seq ?_ | refine Wc.region ?_ | refine Wc.condT rfl ?_))
    refine Wl.mkIface rfl ?_
    refine Wl.panic rfl ?_
    (repeat' (first | refine Qseq.panic ?_ | refine Qfn.panic ?_))
    refine ⟨?_, rfl, k4⟩
    unfold propM
    rw [hc1]; dsimp only; rw [hc2]; dsimp only; rw [h0]
  | some k =>
    have hk := (idx0_some h0).1
    have hkl : ((names.drop a).take k).length = k := by rw [List.length_take]; omega
    dsimp only
    generalize hN : (names.drop a).take k = nm at *
    (repeat' (first | refine Wl.moveE (by conv => { lhs; whnf }) ?_ | refine Wl.assignE (by conv => { lhs; whnf }) ?_ | refine Wl.nil ?_ | refine Wl.extract rfl rfl ?_ | refine Wl.guardY rfl rfl ?_ | refine Wl.guardN rfl rfl ?_ | refine Wl.pickTE rfl (by conv => { lhs; whnf }) ?_ | refine Wl.pickFE rfl (by conv => { lhs; whnf }) ?_ | refine Wl.notB rfl ?_ | refine Wl.lenStr rfl ?_ | refine Qseq.normal ?_ | refine Wc.seq ?_ | refine Wc.region ?_ | refine Wc.condT rfl ?_ | refine Wl.nilP rfl ?_ | refine Wl.fieldAddr rfl rfl ?_ | refine Wl.gtr rfl rfl (fun _ => ?_) (fun _ => ?_)))
    · refine Wl.mkIface rfl ?_
      refine Wl.panic rfl ?_
      (repeat' (first | refine Qseq.panic ?_ | refine Qfn.panic ?_))
      refine ⟨?_, rfl, k4⟩
      unfold propM
      rw [hc1]; dsimp only; rw [hc2]; dsimp only; rw [h0]; dsimp only; rw [if_pos (.inl (by omega))]
    · have h31 : ¬ 31 < k := by omega
      refine Wl.load1 rfl (h4.cell (o := 2) rfl) ?_
      (repeat' (first | refine Wl.moveE (by conv => { lhs; whnf }) ?_ | refine Wl.guardY rfl rfl ?_))
      refine Wl.call (put_spec (nm := nm) t4 (by omega) htl htz) rfl ?_
      rintro _ w5 ⟨rfl, t5, c5⟩
      have h5 := h4.chg c5 fun e => hM e.1
      have hsz := n1.size
      have c25 := k4.size
      have b5 := b4.chg c5 (fun e => by have := e.2; omega)
      have k5 : Chg (fun k => k = b ∨ M k) w w5 := k4.trans c5 fun _ _ e => .inr e.1
      (repeat' (first | refine Wl.moveE (by conv => { lhs; whnf }) ?_ | refine Wl.nil ?_ | refine Wl.guardY rfl rfl ?_ | refine Wl.pickFE rfl (by conv => { lhs; whnf }) ?_ | refine Qseq.normal ?_ | refine Wc.seq ?_ | refine Wc.region ?_ | refine Wc.skip ?_ | refine Wc.condT rfl ?_ | refine Wc.condF rfl ?_ | refine Wl.neq rfl rfl (fun _ => ?_) (fun _ => ?_)))
      · refine Wl.mkIface rfl ?_
        refine Wl.panic rfl ?_
        (repeat' (first | refine Qseq.panic ?_ | refine Qfn.panic ?_))
        refine ⟨?_, rfl, k5⟩
        unfold propM
        rw [hc1]; dsimp only; rw [hc2]; dsimp only; rw [h0]; dsimp only; rw [hN, if_pos (.inr (by omega))]
      · have hpl : placeN tb nm = a := by omega
        refine Wl.callX (rfilled_spec (n := n) h5 (by omega) (by simp only [maxLen]; omega)) rfl ?_ ?_
        · rintro c w6 ⟨hc, rfl, c6⟩
          (repeat' (first | refine Qseq.panic ?_ | refine Qfn.panic ?_))
          refine ⟨?_, rfl, k5.trans c6 fun _ _ e => .inl e⟩
          unfold propM
          rw [hc1]; dsimp only; rw [hc2]; dsimp only; rw [h0]; dsimp only; rw [hN, if_neg (by omega), hc]
        rintro _ w6 ⟨x, s3, hf, rfl, h6, c6⟩
        have b6 := b5.chg c6 (by omega)
        have t6 := t5.chg c6 fun j _ hj e => by
          rcases hj with hj | hj
          · exact hM (e ▸ hj.1)
          · omega
        have k6 : Chg (fun k => k = b ∨ M k) w w6 := k5.trans c6 fun _ _ e => .inl e
        skip
        refine Wl.buildF (ps := [(0, .tmp 46), (1, .tmp 49)]) (parts := [(0, vs nm), (1, vs x)]) rfl rfl (by simp [Value.cells]) ?_
        refine Wl.storeB (u := .agg (pC (nm, x)).toArray) (new := pC (nm, x)) b6 rfl rfl rfl rfl (show (2 : Nat) ≤ 2 from Nat.le_refl 2) (goodPr.oc (fun _ => True) w (nm, x) _ rfl rfl) fun w7 b7 c7 s7 => ?_
        replace b7 : Bk w7 w.heap.size tProp (pC (nm, x)) := b7
        have h7 := h6.chg c7 (by omega)
        have l4 := b4.lt
        have t7 := t6.chg c7 fun j _ hj e => by
          rcases hj with hj | hj
          · have := hj.2; omega
          · omega
        have s57 := c5.size
        have s67 := c6.size
        have s77 := c7.size
        have s47 := k4.size
        (repeat' (first | refine Wl.nil ?_ | refine Qseq.normal ?_ | refine Wc.ret ?_))
        refine Qfn.retR (v := .agg (pC (nm, x)).toArray) ?_ ?_
        · refine results1 (a := .cell 2 tProp) rfl ?_
          exact rvOf_agg rfl rfl b7 rfl
        refine ⟨(nm, x), addNm tb nm, s3, ?_, rfl, h7, t7.mono fun j hj e => ?_, k6.trans c7 fun j hj e => by omega⟩
        · unfold propM
          rw [hc1]; dsimp only; rw [hc2]; dsimp only; rw [h0]; dsimp only; rw [hN, if_neg (by omega), hf]
        · rcases e with e | e
          · exact .inl e.1
          · exact .inr ⟨by omega, hj⟩
end Go.Proofs.YtlkhajheecglgaaDoor

namespace Go.Proofs.YtlkhajheecglgaaDoor
open Go Wk

def totN (l : List Nd) : Nat := (l.map fun x => x.props.length).sum
/-- The table is small, as few names have come by. -/
structure Inv (tb : List Nm) (nodes : List Nd) : Prop where
  sz : sizeN tb ≤ 32 * totN nodes
  pr : ∀ x ∈ nodes, x.props.length ≤ 32
  len : nodes.length ≤ 512
  tx : ∀ x ∈ nodes, ∀ p ∈ x.props, p.1.length ≤ 31
theorem totN_le : ∀ {l : List Nd}, (∀ x ∈ l, x.props.length ≤ 32) → totN l ≤ 32 * l.length
  | [], _ => Nat.le_refl _
  | x :: r, h => by
    have h1 := h x (by simp)
    have h2 := totN_le (l := r) fun y hy => h y (by simp [hy])
    unfold totN at h2 ⊢
    simp only [List.map_cons, List.sum_cons, List.length_cons]
    omega
theorem Inv.small {tb : List Nm} {nodes : List Nd} (h : Inv tb nodes) : sizeN tb ≤ 524288 := by
  have h1 := totN_le h.pr
  have h2 := h.sz
  have h3 := h.len
  omega
theorem Inv.nil : Inv [] [] := ⟨Nat.le_refl _, fun x hx => by simp at hx, by simp, fun x hx => by simp at hx⟩
theorem totN_app (a b : List Nd) : totN (a ++ b) = totN a + totN b := by simp [totN]
theorem Inv.snoc {tb : List Nm} {nodes : List Nd} (h : Inv tb nodes) (hl : nodes.length < 512) {x : Nd} (hx : x.props = []) : Inv tb (nodes ++ [x]) := by
  refine ⟨?_, fun y hy => ?_, by simp; omega, fun y hy => ?_⟩
  · rw [totN_app]; have := h.sz; omega
  · rcases List.mem_append.1 hy with hy | hy
    · exact h.pr y hy
    · simp at hy; subst hy; rw [hx]; simp
  · rcases List.mem_append.1 hy with hy | hy
    · exact h.tx y hy
    · simp at hy; subst hy; rw [hx]; simp
theorem totN_set : ∀ {l : List Nd} {i : Nat} {x : Nd} {ps : List Pr}, l[i]? = some x → totN (l.set i { x with props := ps }) + x.props.length = totN l + ps.length
  | [], i, x, ps, h => by simp at h
  | y :: r, 0, x, ps, h => by
    simp at h; subst h
    simp only [List.set_cons_zero, totN, List.map_cons, List.sum_cons]; omega
  | y :: r, i + 1, x, ps, h => by
    have := totN_set (l := r) (i := i) (ps := ps) (by simpa using h)
    simp only [List.set_cons_succ, totN, List.map_cons, List.sum_cons] at this ⊢
    omega
theorem Inv.set {tb tb' : List Nm} {nodes : List Nd} (h : Inv tb nodes) {i : Nat} {x : Nd} {p : Pr} (hx : nodes[i]? = some x) (hl : x.props.length < 32) (hs : sizeN tb' ≤ sizeN tb + 32) (hp : p.1.length ≤ 31) : Inv tb' (nodes.set i { x with props := x.props ++ [p] }) := by
  refine ⟨?_, fun y hy => ?_, by rw [List.length_set]; exact h.len, fun y hy => ?_⟩
  · have := totN_set (ps := x.props ++ [p]) hx
    have := h.sz
    simp only [List.length_append, List.length_singleton] at *
    omega
  · rcases List.mem_or_eq_of_mem_set hy with hy | hy
    · exact h.pr y hy
    · subst hy; simp; omega
  · rcases List.mem_or_eq_of_mem_set hy with hy | hy
    · exact h.tx y hy
    · subst hy
      intro q hq
      rcases List.mem_append.1 hq with hq | hq
      · exact h.tx x (List.mem_of_getElem? hx) q hq
      · simp at hq; subst hq; exact hp
theorem propM_keeps {names s s' : List UInt8} {tb tb' : List Nm} {p : Pr} (h : propM names tb s = some (p, tb', s')) : s'.length ≤ s.length ∧ sizeN tb' ≤ sizeN tb + 32 ∧ p.1.length ≤ 31 := by
  unfold propM at h
  split at h
  · cases h
  · rename_i n s1 hc1
    split at h
    · cases h
    · rename_i a s2 hc2
      split at h
      · cases h
      · rename_i k h0
        split at h
        · cases h
        · rename_i hk
          split at h
          · cases h
          · rename_i v s3 hf
            cases h
            have e1 := congrArg List.length (cellM_sound hc1).1
            have e2 := congrArg List.length (cellM_sound hc2).1
            have e3 := congrArg List.length (filM_sound hf).1
            have h4 := sizeN_add tb ((names.drop a).take k)
            have h5 : ((names.drop a).take k).length ≤ k := by rw [List.length_take]; omega
            simp only [List.length_append, cell4_length] at e1 e2 e3
            dsimp only
            omega
/-- What a step of the reader keeps. -/
def Kp (st st' : RSt) : Prop := st'.1.length ≤ st.1.length ∧ st.2.2.length ≤ st'.2.2.length ∧ (Inv st.2.1 st.2.2 → Inv st'.2.1 st'.2.2)
theorem Kp.trans {a b c : RSt} (h : Kp a b) (h' : Kp b c) : Kp a c := ⟨Nat.le_trans h'.1 h.1, Nat.le_trans h.2.1 h'.2.1, fun i => h'.2.2 (h.2.2 i)⟩
theorem loopM_keeps {names : List UInt8} {rec : Int → Nat → RSt → Option RSt} {depth at_ : Nat} (hrec : ∀ up d st st', rec up d st = some st' → Kp st st') : ∀ (g : Nat) (st st' : RSt), loopM names rec depth at_ g st = some st' → Kp st st'
  | 0, _, _, h => by cases h
  | g + 1, (s, tb, nodes), st', h => by
    unfold loopM at h
    split at h
    · cases h
    · rename_i c s1 hc
      have e1 := congrArg List.length (cellM_sound hc).1
      simp only [List.length_append, cell4_length] at e1
      split at h
      · split at h
        · cases h
        · rename_i p tb' s2 hp
          obtain ⟨l1, l2, l3⟩ := propM_keeps hp
          split at h
          · cases h
          · rename_i x hx
            split at h
            · cases h
            · rename_i hn
              have := loopM_keeps hrec g _ _ h
              refine Kp.trans ⟨?_, ?_, fun i => ?_⟩ this
              · dsimp only; omega
              · simp
              · exact i.set hx (by omega) l2 l3
      · split at h
        · split at h
          · cases h
          · rename_i st2 hr
            have h1 := hrec _ _ _ _ hr
            have h2 := loopM_keeps hrec g _ _ h
            refine Kp.trans ?_ (Kp.trans h1 h2)
            exact ⟨by dsimp only; omega, Nat.le_refl _, fun i => i⟩
        · split at h
          · cases h
            exact ⟨by dsimp only; omega, Nat.le_refl _, fun i => i⟩
          · cases h
theorem nodeM_keeps {names : List UInt8} : ∀ (f : Nat) (up : Int) (d : Nat) (st st' : RSt), nodeM names f up d st = some st' → Kp st st'
  | 0, _, _, _, _, h => by cases h
  | f + 1, up, d, (s, tb, nodes), st', h => by
    unfold nodeM at h
    split at h
    · cases h
    · rename_i n h0
      split at h
      · cases h
      · rename_i hn
        split at h
        · cases h
        · rename_i v s1 hf
          have h2 := loopM_keeps (nodeM_keeps f) _ _ _ h
          have e3 := congrArg List.length (filM_sound hf).1
          simp only [List.length_append] at e3
          refine Kp.trans ⟨?_, ?_, fun i => ?_⟩ h2
          · dsimp only; omega
          · simp
          · have i : Inv tb nodes := i
            exact i.snoc (by omega) rfl
end Go.Proofs.YtlkhajheecglgaaDoor

namespace Go.Proofs.YtlkhajheecglgaaDoor
open Go Wk
open Go.RowKit (Below)
attribute [local irreducible] Go.Calls

abbrev OwnPr (Pb : Nat → Prop) (w : World) (v : Value) (l : List Pr) : Prop := OwnS rPr tProp 2 Pb No w v l
abbrev Sl := Option Addr × Nat × Nat
abbrev slV (s : Sl) : Value := .slice s.1 s.2.1 s.2.2
def ndV (x : Nd × Sl) : List Value := [vi x.1.parent, vs x.1.name, slV x.2]
abbrev tNd : TypeId := 39
abbrev Lb := Nat → Option Nat
structure TrOwn (lo : Nat) (lab : Lb) (w : World) (v : Value) (t : List Nd) (pvs : List Sl) : Prop where
  len : pvs.length = t.length
  low : ∀ b c, lab b = some c → lo ≤ b ∧ b < w.heap.size
  arr : OwnS (flat ndV) tNd 3 (fun b => lab b = some 0) No w v (t.zip pvs)
  pr : ∀ i x pv, t[i]? = some x → pvs[i]? = some pv → OwnPr (fun b => lab b = some (i + 1)) w (slV pv) x.props
theorem goodNdV : GoodR (flat ndV) 3 := good_flat ndV (fun _ => rfl) fun x c hc => by
  simp [ndV] at hc
  rcases hc with rfl | rfl | rfl <;> rfl
section
variable {lo : Nat} {lab lab' : Lb} {w w' : World} {v : Value} {t : List Nd} {pvs : List Sl} {M : Nat → Prop}
theorem TrOwn.nil {lo : Nat} {w : World} : TrOwn lo (fun _ => none) w (.slice none 0 0) [] [] :=
  ⟨rfl, fun b c e => (by cases e), OwnS.nil, fun i x pv h => by simp at h⟩
theorem TrOwn.chg (h : TrOwn lo lab w v t pvs) (c : Chg M w w') (hM : ∀ b, b < w.heap.size → M b → lab b = none) : TrOwn lo lab w' v t pvs := by
  have c' : Chg (fun b => M b ∧ b < w.heap.size) w w' := c.mono fun k hk e => ⟨e, hk⟩
  exact ⟨h.len, fun b q e => ⟨(h.low b q e).1, Nat.lt_of_lt_of_le (h.low b q e).2 c.size⟩, h.arr.chg (plain_flat ndV) c' (fun b hb e => by have := (h.arr.lt hb).1; rw [hM b e.2 e.1] at this; cases this),
    fun i x pv hx hp => (h.pr i x pv hx hp).chg plainPr c' (fun b hb e => by have := ((h.pr i x pv hx hp).lt hb).1; rw [hM b e.2 e.1] at this; cases this)⟩
theorem TrOwn.new (h : TrOwn lo lab w v t pvs) (c : New w w') : TrOwn lo lab w' v t pvs := h.chg c fun _ _ e => e.elim
/-- It can be read. -/
theorem TrOwn.rd (h : TrOwn lo lab w v t pvs) : RdS rNd 3 (fun b => lo ≤ b) w v t := by
  have hr := h.arr.rd (mono_flat ndV)
  have hl : (t.zip pvs).length = t.length := by simp [h.len]
  rcases hr with ⟨rfl, e⟩ | ⟨a, cap, rfl, e, hc⟩ | ⟨b, off, cap, cur, e, fr, rfl, hb, hh, h1, h2, h3, h4⟩
  · refine .inl ⟨rfl, List.eq_nil_of_length_eq_zero ?_⟩
    rw [← hl, e]; rfl
  · have ht : t = [] := List.eq_nil_of_length_eq_zero (by rw [← hl, e]; rfl)
    exact .inr (.inl ⟨a, cap, rfl, ht, hc⟩)
  · rw [hl] at *
    refine .inr (.inr ⟨b, off, cap, cur, e, fr, rfl, ?_, hh, h1, h2, h3, fun i x hx => ?_⟩)
    · rcases hb with hb | hb
      · exact (h.low b 0 hb).1
      · exact hb.elim
    · have hi : i < t.length := (List.getElem?_eq_some_iff.1 hx).1
      obtain ⟨pv, hpv⟩ := get_lt pvs (k := i) (by rw [h.len]; exact hi)
      have hz : (t.zip pvs)[i]? = some (x, pv) := by simp [List.getElem?_zip_eq_some, hx, hpv]
      have := h4 i (x, pv) hz
      refine ⟨slV pv, this, ?_⟩
      have hp := (h.pr i x pv hx hpv).rd (mono_flat pC)
      exact hp.mono (mono_flat pC) fun b _ hb => by
        rcases hb with hb | hb
        · exact (h.low b _ hb).1
        · exact hb.elim
/-- A node behind the others. -/
theorem TrOwn.snoc {w2 w3 : World} (h : TrOwn lo lab w v t pvs) (hlo : lo ≤ w.heap.size) {x : Nd} {pv : Sl} {v' : Value} (n : New w w2) (hp : OwnPr (fun b => w.heap.size ≤ b) w2 (slV pv) x.props)
    (ha : OwnS (flat ndV) tNd 3 (fun b => lab b = some 0 ∨ w2.heap.size ≤ b) No w3 v' (t.zip pvs ++ [(x, pv)])) (c : Chg (fun b => v.ownBlock = some b) w2 w3) :
    ∃ lab', TrOwn lo lab' w3 v' (t ++ [x]) (pvs ++ [pv]) ∧ ∀ b, b < w.heap.size → lab' b = lab b := by
  let lab' : Lb := fun b => if b < w.heap.size then lab b else if b < w2.heap.size then some (t.length + 1) else if b < w3.heap.size then some 0 else none
  have hold : ∀ b, b < w.heap.size → lab' b = lab b := fun b hb => if_pos hb
  have hpl : t.length = pvs.length := h.len.symm
  refine ⟨lab', ⟨by simp [h.len], fun b q e => ?_, ?_, fun i y qv hy hq => ?_⟩, hold⟩
  · have := n.size
    have := c.size
    by_cases hb : b < w.heap.size
    · rw [hold b hb] at e; have := h.low b q e; omega
    · simp only [lab', if_neg hb] at e
      split at e
      · omega
      · split at e
        · omega
        · cases e
  · rw [List.zip_append hpl]
    refine ha.reblk fun b hb e => ?_
    have hlt := (ha.lt hb).2
    rcases e with e | e
    · exact (hold b (h.low b _ e).2).trans e
    · have := n.size
      simp only [lab', if_neg (show ¬ b < w.heap.size by omega), if_neg (show ¬ b < w2.heap.size by omega), if_pos hlt]
  · rw [List.getElem?_append] at hy hq
    have nv : ∀ b, v.ownBlock = some b → lab b = some 0 := fun b hb => (h.arr.lt hb).1
    split at hy
    · rename_i hi
      rw [if_pos (by omega)] at hq
      have h1 := ((h.pr i y qv hy hq).new plainPr n).chg plainPr c fun b hb e => by have := ((h.pr i y qv hy hq).lt hb).1; rw [nv b e] at this; cases this
      exact h1.reblk fun b hb e => (hold b (h.low b _ e).2).trans e
    · rename_i hi
      rw [if_neg (by omega)] at hq
      have hi0 : i = t.length := by
        have := (List.getElem?_eq_some_iff.1 hy).1
        simp at this; omega
      subst hi0
      simp at hy
      rw [hpl] at hq
      simp at hq
      subst hy
      subst hq
      have h1 := hp.chg plainPr c fun b hb e => by
        have h2 := (hp.lt hb).1
        have := (h.low b _ (nv b e)).2
        omega
      refine h1.reblk fun b hb e => ?_
      have := (hp.lt hb).2
      simp only [lab', if_neg (show ¬ b < w.heap.size by omega), if_pos this]
end
end Go.Proofs.YtlkhajheecglgaaDoor

namespace Go.Proofs.YtlkhajheecglgaaDoor
open Go Wk
open Go.RowKit (Below)
attribute [local irreducible] Go.Calls

theorem zip_set2 {α β : Type} : ∀ (l : List α) (m : List β) (i : Nat) (x : α) (y : β), (l.zip m).set i (x, y) = (l.set i x).zip (m.set i y)
  | [], m, i, x, y => by simp
  | a :: l, [], i, x, y => by cases i <;> simp
  | a :: l, b :: m, 0, x, y => rfl
  | a :: l, b :: m, i + 1, x, y => by
    simp only [List.zip_cons_cons, List.set_cons_succ]
    rw [zip_set2 l m i x y]
/-- One node's props are others now. -/
theorem TrOwn.setProps {lo : Nat} {lab : Lb} {w w1 w2 : World} {v : Value} {t : List Nd} {pvs : List Sl} {i : Nat} {x : Nd} {pv pv' : Sl} {ps : List Pr} (h : TrOwn lo lab w v t pvs) (hlo : lo ≤ w.heap.size) (hx : t[i]? = some x) (hp : pvs[i]? = some pv)
    (c1 : Chg (fun b => (slV pv).ownBlock = some b) w w1) (o : OwnPr (fun b => lab b = some (i + 1) ∨ w.heap.size ≤ b) w1 (slV pv') ps) (c2 : Chg (fun b => v.ownBlock = some b) w1 w2)
    (ha : OwnS (flat ndV) tNd 3 (fun b => lab b = some 0) No w2 v ((t.zip pvs).set i ({ x with props := ps }, pv'))) :
    ∃ lab', TrOwn lo lab' w2 v (t.set i { x with props := ps }) (pvs.set i pv') ∧ ∀ b, b < w.heap.size → lab' b = lab b := by
  let lab' : Lb := fun b => if b < w.heap.size then lab b else if b < w1.heap.size then some (i + 1) else none
  have hold : ∀ b, b < w.heap.size → lab' b = lab b := fun b hb => if_pos hb
  have s1 := c1.size
  have s2 := c2.size
  have hpl := (h.pr i x pv hx hp)
  refine ⟨lab', ⟨by simp [h.len], fun b q e => ?_, ?_, fun j y qv hy hq => ?_⟩, hold⟩
  · by_cases hb : b < w.heap.size
    · rw [hold b hb] at e; have := h.low b q e; omega
    · simp only [lab', if_neg hb] at e
      split at e
      · omega
      · cases e
  · rw [← zip_set2]
    refine ha.reblk fun b hb e => ?_
    exact (hold b (h.low b _ e).2).trans e
  · have nv : ∀ b, v.ownBlock = some b → lab b = some 0 := fun b hb => (h.arr.lt hb).1
    by_cases hij : i = j
    · subst hij
      rw [List.getElem?_set, if_pos rfl, if_pos (List.getElem?_eq_some_iff.1 hx).1] at hy
      rw [List.getElem?_set, if_pos rfl, if_pos (List.getElem?_eq_some_iff.1 hp).1] at hq
      cases hy
      cases hq
      have h1 := o.chg plainPr c2 fun b e1 e2 => by
        have h2 := nv b e2
        rcases (o.lt e1).1 with h3 | h3
        · rw [h2] at h3; cases h3
        · have := (h.low b _ h2).2; omega
      refine h1.reblk fun b hb e => ?_
      have hlt := (o.lt hb).2
      rcases e with e | e
      · exact (hold b (h.low b _ e).2).trans e
      · simp only [lab', if_neg (show ¬ b < w.heap.size by omega), if_pos hlt]
    · rw [List.getElem?_set_ne hij] at hy hq
      have h0 := h.pr j y qv hy hq
      have h1 := (h0.chg plainPr c1 fun b e1 e2 => by
        have h2 := (h0.lt e1).1
        rw [(hpl.lt e2).1] at h2
        cases h2; exact hij rfl).chg plainPr c2 fun b e1 e2 => by
        have h2 := (h0.lt e1).1
        rw [nv b e2] at h2; cases h2
      exact h1.reblk fun b hb e => (hold b (h.low b _ e).2).trans e
/-- The reader, its table and its nodes in memory. -/
structure RA (lo : Nat) (M : Nat → Prop) (lab : Lb) (w : World) (b : Nat) (names s : List UInt8) (tp nv : Value) (tb : List Nm) (nodes : List Nd) (pvs : List Sl) : Prop where
  bk : Bk w b tRdr (rdr names s tp nv)
  tbl : Tb M w tp tb
  tr : TrOwn lo lab w nv nodes pvs
  hb : lo ≤ w.heap.size ∧ lab b = none ∧ ¬ M b
  hM : ∀ k, M k → lo ≤ k ∧ k < w.heap.size ∧ lab k = none
/-- What node comes to. -/
def NodeX (lo : Nat) (w : World) (b : Nat) (names : List UInt8) (tp : Value) (R : Option RSt) : Ending → World → Prop :=
  RetX (fun v w' => ∃ M' lab' nv' pvs' s' tb' nodes', R = some (s', tb', nodes') ∧ v = .tuple #[] ∧ RA lo M' lab' w' b names s' tp nv' tb' nodes' pvs' ∧ Chg (fun k => k = b ∨ lo ≤ k) w w')
    (fun c w' => R = none ∧ c = formC ∧ Chg (fun k => k = b ∨ lo ≤ k) w w')
section
variable {lo : Nat} {M : Nat → Prop} {lab : Lb} {w w' : World} {b : Nat} {names s : List UInt8} {tp nv : Value} {tb : List Nm} {nodes : List Nd} {pvs : List Sl}
theorem RA.nvb (h : RA lo M lab w b names s tp nv tb nodes pvs) {k : Nat} (hk : nv.ownBlock = some k) : lab k = some 0 ∧ lo ≤ k ∧ k < w.heap.size := by
  have := (h.tr.arr.lt hk).1
  exact ⟨this, h.tr.low k _ this⟩
theorem RA.slo (h : RA lo M lab w b names s tp nv tb nodes pvs) : lo ≤ w.heap.size := h.hb.1
/-- The reader went on; its table and nodes stay. -/
theorem RA.took {s' : List UInt8} (h : RA lo M lab w b names s tp nv tb nodes pvs) (c : Chg (fun k => k = b) w w') (hb : Bk w' b tRdr (rdr names s' tp nv)) : RA lo M lab w' b names s' tp nv tb nodes pvs := by
  have sz := c.size
  refine ⟨hb, h.tbl.chg c fun k _ hk e => h.hb.2.2 (e ▸ hk), h.tr.chg c fun k _ e => e ▸ h.hb.2.1, ⟨Nat.le_trans h.hb.1 sz, h.hb.2⟩, fun k hk => ?_⟩
  have := h.hM k hk
  exact ⟨this.1, by omega, this.2.2⟩
theorem RA.new (h : RA lo M lab w b names s tp nv tb nodes pvs) (c : New w w') : RA lo M lab w' b names s tp nv tb nodes pvs :=
  h.took (c.any) (h.bk.chg c id)
/-- prop went by. -/
theorem RA.prop {s' : List UInt8} {tb' : List Nm} (h : RA lo M lab w b names s tp nv tb nodes pvs) (c : Chg (fun k => k = b ∨ M k) w w') (hb : Bk w' b tRdr (rdr names s' tp nv)) (ht : Tb (fun k => M k ∨ w.heap.size ≤ k ∧ k < w'.heap.size) w' tp tb') :
    RA lo (fun k => M k ∨ w.heap.size ≤ k ∧ k < w'.heap.size) lab w' b names s' tp nv tb' nodes pvs := by
  have sz := c.size
  have hlt := h.bk.lt
  have slo := h.slo
  refine ⟨hb, ht, h.tr.chg c fun k _ e => ?_, ⟨Nat.le_trans h.hb.1 sz, h.hb.2.1, fun e => ?_⟩, fun k hk => ?_⟩
  · rcases e with rfl | e
    · exact h.hb.2.1
    · exact (h.hM k e).2.2
  · rcases e with e | e
    · exact h.hb.2.2 e
    · omega
  · rcases hk with hk | hk
    · have := h.hM k hk
      exact ⟨this.1, by omega, this.2.2⟩
    · refine ⟨by omega, by omega, ?_⟩
      cases hq : lab k with
      | none => rfl
      | some q => have := (h.tr.low k q hq).2; omega
/-- The nodes turned, and the reader's list of them. -/
theorem RA.grow {w4 w5 : World} {lab' : Lb} {nv' : Value} {nodes' : List Nd} {pvs' : List Sl} (h : RA lo M lab w b names s tp nv tb nodes pvs) (c : Chg (fun k => lab k ≠ none) w w4) (ht : TrOwn lo lab' w4 nv' nodes' pvs') (hl : ∀ k, k < w.heap.size → lab' k = lab k)
    (hb : Bk w5 b tRdr (rdr names s tp nv')) (c5 : Chg (fun k => k = b) w4 w5) : RA lo M lab' w5 b names s tp nv' tb nodes' pvs' := by
  have s4 := c.size
  have s5 := c5.size
  have hlt := h.bk.lt
  have hlb : lab' b = none := (hl b hlt).trans h.hb.2.1
  refine ⟨hb, (h.tbl.chg c fun k hk hm e => e (h.hM k hm).2.2).chg c5 fun k _ hm e => h.hb.2.2 (e ▸ hm), ht.chg c5 fun k _ e => e ▸ hlb, ⟨by have := h.hb.1; omega, hlb, h.hb.2.2⟩, fun k hk => ?_⟩
  have := h.hM k hk
  exact ⟨this.1, by omega, (hl k this.2.1).trans this.2.2⟩
/-- The nodes turned in their place. -/
theorem RA.tree {w4 : World} {lab' : Lb} {nodes' : List Nd} {pvs' : List Sl} (h : RA lo M lab w b names s tp nv tb nodes pvs) (c : Chg (fun k => lab k ≠ none) w w4) (ht : TrOwn lo lab' w4 nv nodes' pvs') (hl : ∀ k, k < w.heap.size → lab' k = lab k) : RA lo M lab' w4 b names s tp nv tb nodes' pvs' :=
  h.grow c ht hl (h.bk.chg c fun e => e h.hb.2.1) (Chg.refl _ _)
/-- A node's place in memory. -/
theorem TrOwn.cell {i : Nat} {x : Nd} {pv : Sl} (h : TrOwn lo lab w nv nodes pvs) (hx : nodes[i]? = some x) (hp : pvs[i]? = some pv) :
    ∃ g cap, nv = .slice (some ⟨g, 0, none⟩) nodes.length cap ∧ lab g = some 0 ∧ g < w.heap.size ∧ (nodes.zip pvs)[i]? = some (x, pv) ∧ ∀ j u, (ndV (x, pv))[j]? = some u → w.cell? ⟨g, i * 3 + j, none⟩ = some u := by
  have hz : (nodes.zip pvs)[i]? = some (x, pv) := List.getElem?_zip_eq_some.2 ⟨hx, hp⟩
  have hzl : (nodes.zip pvs).length = nodes.length := by simp [h.len]
  obtain ⟨g, cap, e, hg, hlt, _⟩ := h.arr.blk (fun e => by rw [e] at hz; simp at hz)
  rw [hzl] at e
  refine ⟨g, cap, e, hg, hlt, hz, fun j u hu => ?_⟩
  obtain ⟨b', off, cap', e', _, cs, _, hcs, hc⟩ := (h.arr.rd (mono_flat ndV)).cells hz
  rw [e, hzl] at e'
  simp only [Value.slice.injEq, Option.some.injEq, Addr.mk.injEq] at e'
  obtain ⟨⟨rfl, rfl, _⟩, _, _⟩ := e'
  obtain rfl : cs = ndV (x, pv) := hcs
  have := hc j u hu
  rwa [Nat.zero_add] at this
end
end Go.Proofs.YtlkhajheecglgaaDoor

namespace Go.Proofs.YtlkhajheecglgaaDoor
open Go Wk
open Go.RowKit (Below)
attribute [local irreducible] Go.Calls

theorem nodeM_no {names s : List UInt8} {tb : List Nm} {nodes : List Nd} {f d : Nat} {up : Int} (h : idx0 s = none) : nodeM names f up d (s, tb, nodes) = none := by
  cases f with
  | zero => rfl
  | succ f => unfold nodeM; rw [h]
theorem nodeM_bad {names s : List UInt8} {tb : List Nm} {nodes : List Nd} {f d n : Nat} {up : Int} (h : idx0 s = some n) (hb : 31 < n ∨ 16 < d ∨ 512 ≤ nodes.length) : nodeM names f up d (s, tb, nodes) = none := by
  cases f with
  | zero => rfl
  | succ f => unfold nodeM; rw [h]; dsimp only; rw [if_pos hb]
set_option maxRecDepth 8000 in
set_option maxHeartbeats 4000000 in
theorem rnode_spec {lo b : Nat} {names : List UInt8} {tp : Value} (hnm : names.length ≤ 9223372036854775806) : ∀ (f : Nat) (w : World) (M : Nat → Prop) (lab : Lb) (s : List UInt8) (nv : Value) (tb : List Nm) (nodes : List Nd) (pvs : List Sl) (up : Int) (d : Nat), d + f = 17 →
    RA lo M lab w b names s tp nv tb nodes pvs → Inv tb nodes → s.length ≤ 9223372036854775806 →
    Calls Tryd.prog 38 #[ptrB b, vi up, vi d] w (NodeX lo w b names tp (nodeM names f up d (s, tb, nodes))) := by
  intro f
  induction f with
  | zero =>
    intro w M lab s nv tb nodes pvs up d hd h hI hs
    obtain rfl : d = 17 := by omega
    unfold NodeX
    refine calls_of_Wc Tryd.func38 rfl Tryd.ntmps38 rfl ?_
    (repeat' (first | refine Wl.moveE (by conv => { lhs; whnf }) ?_ | refine Wc.seq ?_ | refine Wc.region ?_ | refine Wl.nilP rfl ?_ | refine Wl.fieldAddr rfl rfl ?_))
    refine Wl.load1 rfl (h.bk.cell (o := 0) rfl) ?_
    refine Wl.call (φ := fun v w' => v = vi (Lib.indexByte s 0) ∧ w = w') ((Tryd.strings_IndexByte ⟨s.toArray⟩ 0 w).mono ?_) rfl ?_
    · rintro e w' ⟨rfl, rfl⟩
      exact ⟨_, rfl, rfl, rfl⟩
    rintro _ _ ⟨rfl, rfl⟩
    have hi := indexByte0 s
    cases h0 : idx0 s with
    | none =>
      rw [h0] at hi
      dsimp only at hi
      rw [hi]
      (repeat' (first | refine Wl.moveE (by conv => { lhs; whnf }) ?_ | refine Wl.assignE (by conv => { lhs; whnf }) ?_ | refine Wl.nil ?_ | refine Wl.guardN rfl rfl ?_ | refine Wl.pickTE rfl (by conv => { lhs; whnf }) ?_ | refine Qseq.normal ?_ | refine Wc.seq ?_ | refine Wc.region ?_ | refine Wc.condT rfl ?_ | (refine Wl.lss rfl rfl (fun _ => ?_) (fun _ => ?_) <;> (first | (exfalso; omega) | skip))))
      refine Wl.mkIface rfl ?_
      refine Wl.panic rfl ?_
      (repeat' (first | refine Qseq.panic ?_ | refine Qfn.panic ?_))
      exact ⟨rfl, rfl, Chg.refl _ _⟩
    | some n =>
      rw [h0] at hi
      dsimp only at hi
      rw [hi]
      (repeat' (first | refine Wl.moveE (by conv => { lhs; whnf }) ?_ | refine Wl.assignE (by conv => { lhs; whnf }) ?_ | refine Wl.nil ?_ | refine Wl.guardY rfl rfl ?_ | refine Wl.guardN rfl rfl ?_ | refine Wl.pickTE rfl (by conv => { lhs; whnf }) ?_ | refine Wl.pickFE rfl (by conv => { lhs; whnf }) ?_ | refine Qseq.normal ?_ | refine Wc.seq ?_ | refine Wc.region ?_ | refine Wc.condT rfl ?_ | (refine Wl.lss rfl rfl (fun _ => ?_) (fun _ => ?_) <;> (first | (exfalso; contradiction) | skip)) | (refine Wl.gtr rfl rfl (fun _ => ?_) (fun _ => ?_) <;> (first | (exfalso; omega) | skip))))
      · refine Wl.mkIface rfl ?_
        refine Wl.panic rfl ?_
        (repeat' (first | refine Qseq.panic ?_ | refine Qfn.panic ?_))
        exact ⟨rfl, rfl, Chg.refl _ _⟩
      · refine Wl.mkIface rfl ?_
        refine Wl.panic rfl ?_
        (repeat' (first | refine Qseq.panic ?_ | refine Qfn.panic ?_))
        exact ⟨rfl, rfl, Chg.refl _ _⟩
  | succ f ih =>
    intro w M lab s nv tb nodes pvs up d hd h hI hs
    obtain ⟨na, nc, hnv, _, _⟩ := h.tr.rd.form
    subst hnv
    have hnl := hI.len
    unfold NodeX
    refine calls_of_Wc Tryd.func38 rfl Tryd.ntmps38 rfl ?_
    (repeat' (first | refine Wl.moveE (by conv => { lhs; whnf }) ?_ | refine Wc.seq ?_ | refine Wc.region ?_ | refine Wl.nilP rfl ?_ | refine Wl.fieldAddr rfl rfl ?_))
    refine Wl.load1 rfl (h.bk.cell (o := 0) rfl) ?_
    refine Wl.call (φ := fun v w' => v = vi (Lib.indexByte s 0) ∧ w = w') ((Tryd.strings_IndexByte ⟨s.toArray⟩ 0 w).mono ?_) rfl ?_
    · rintro e w' ⟨rfl, rfl⟩
      exact ⟨_, rfl, rfl, rfl⟩
    rintro _ _ ⟨rfl, rfl⟩
    have hi := indexByte0 s
    cases h0 : idx0 s with
    | none =>
      rw [h0] at hi
      dsimp only at hi
      rw [hi]
      (repeat' (first | refine Wl.moveE (by conv => { lhs; whnf }) ?_ | refine Wl.assignE (by conv => { lhs; whnf }) ?_ | refine Wl.nil ?_ | refine Wl.guardN rfl rfl ?_ | refine Wl.pickTE rfl (by conv => { lhs; whnf }) ?_ | refine Qseq.normal ?_ | refine Wc.seq ?_ | refine Wc.region ?_ | refine Wc.condT rfl ?_ | (refine Wl.lss rfl rfl (fun _ => ?_) (fun _ => ?_) <;> (first | (exfalso; omega) | skip))))
      refine Wl.mkIface rfl ?_
      refine Wl.panic rfl ?_
      (repeat' (first | refine Qseq.panic ?_ | refine Qfn.panic ?_))
      exact ⟨nodeM_no h0, rfl, Chg.refl _ _⟩
    | some n =>
      rw [h0] at hi
      dsimp only at hi
      rw [hi]
      have hns := (idx0_some h0).1
      (repeat' (first | refine Wl.moveE (by conv => { lhs; whnf }) ?_ | refine Wl.assignE (by conv => { lhs; whnf }) ?_ | refine Wl.nil ?_ | refine Wl.guardY rfl rfl ?_ | refine Wl.guardN rfl rfl ?_ | refine Wl.pickTE rfl (by conv => { lhs; whnf }) ?_ | refine Wl.pickFE rfl (by conv => { lhs; whnf }) ?_ | refine Qseq.normal ?_ | refine Wc.seq ?_ | refine Wc.region ?_ | refine Wc.condT rfl ?_ | refine Wl.nilP rfl ?_ | refine Wl.fieldAddr rfl rfl ?_ | (refine Wl.lss rfl rfl (fun _ => ?_) (fun _ => ?_) <;> (first | (exfalso; contradiction) | skip)) | (refine Wl.gtr rfl rfl (fun _ => ?_) (fun _ => ?_) <;> (first | (exfalso; omega) | skip))))
      · refine Wl.mkIface rfl ?_
        refine Wl.panic rfl ?_
        (repeat' (first | refine Qseq.panic ?_ | refine Qfn.panic ?_))
        exact ⟨nodeM_bad h0 (.inl (by omega)), rfl, Chg.refl _ _⟩
      · refine Wl.load1 rfl (h.bk.cell (o := 3) rfl) ?_
        (repeat' (first | refine Wl.moveE (by conv => { lhs; whnf }) ?_ | refine Wl.nil ?_ | refine Wl.guardY rfl rfl ?_ | refine Wl.pickFE rfl (by conv => { lhs; whnf }) ?_ | refine Wl.lenS rfl ?_ | refine Qseq.normal ?_ | refine Wc.seq ?_ | refine Wc.region ?_ | refine Wc.skip ?_ | refine Wc.condT rfl ?_ | refine Wc.condF rfl ?_ | refine Wl.nilP rfl ?_ | refine Wl.fieldAddr rfl rfl ?_ | refine Wl.geq rfl rfl (fun _ => ?_) (fun _ => ?_)))
        · refine Wl.mkIface rfl ?_
          refine Wl.panic rfl ?_
          (repeat' (first | refine Qseq.panic ?_ | refine Qfn.panic ?_))
          exact ⟨nodeM_bad h0 (.inr (.inr (by omega))), rfl, Chg.refl _ _⟩
        · refine Wl.load1 rfl (h.bk.cell (o := 3) rfl) ?_
          (repeat' (first | refine Wl.assignE (by conv => { lhs; whnf }) ?_ | refine Wl.nil ?_ | refine Wl.lenS rfl ?_ | refine Qseq.normal ?_ | refine Wc.seq ?_))
          have hn31 : n ≤ 31 := by omega
          have hd16 : d ≤ 16 := by omega
          have hnl5 : nodes.length < 512 := by omega
          have hnvb : ∀ k, (Value.slice na nodes.length nc).ownBlock = some k → k ≠ b := fun k hk e => by
            have := (h.nvb hk).1
            rw [e, h.hb.2.1] at this; cases this
          refine Wc.regionX (m := 18) rfl (by kernel_rfl) (fun w' => Chg (fun k => k = b ∨ (Value.slice na nodes.length nc).ownBlock = some k) w w' ∧ ∃ s', Bk w' b tRdr (rdr names s' tp (.slice na nodes.length nc)))
            (fun c w' => filM (n + 1) s = none ∧ c = formC ∧ Chg (fun k => k = b ∨ lo ≤ k) w w') ?_ ⟨Chg.drew _ _, s, h.bk.chg (Chg.drew (fun _ => False) _) id⟩ rfl ?_
          · rintro c F w' ⟨hf, rfl, c'⟩
            (repeat' (first | refine Qseq.panic ?_ | refine Qfn.panic ?_))
            refine ⟨?_, rfl, c'⟩
            unfold nodeM
            rw [h0]; dsimp only; rw [if_neg (by omega), hf]
          intro w1 n1
          have h1 := h.new n1
          show Wx _ _ _ _ _ _ _ _ [0, 1, 2, 3, 4, 5, 6, 7, 8, 9, 10, 11, 12, 13, 14, 15, 16, 17] _ _
          (repeat' (first | refine Wx.nil ?_ | (refine Wx.qh rfl rfl rfl ?_; (try refine Wq.guardY rfl rfl ?_); (first | refine Wq.moveE (by conv => { lhs; whnf }) ?_ | refine Wq.assignE (by conv => { lhs; whnf }) ?_ | refine Wq.extract rfl rfl ?_ | refine Wq.pickTE rfl (by conv => { lhs; whnf }) ?_ | refine Wq.pickFE rfl (by conv => { lhs; whnf }) ?_ | refine Wq.notB rfl ?_ | refine Wq.lenS rfl ?_ | refine Wq.lenStr rfl ?_ | refine Wq.nilP rfl ?_ | refine Wq.fieldAddr rfl rfl ?_ | refine Wq.add rfl rfl (by omega) (by omega) ?_ | refine Wq.sub rfl rfl (by omega) (by omega) ?_ | refine Wq.mul rfl rfl (by omega) (by omega) ?_ | refine Wq.convI rfl ?_ | (refine Wq.lss rfl rfl (fun _ => ?_) (fun _ => ?_) <;> (first | (exfalso; omega) | (exfalso; contradiction) | skip)) | (refine Wq.leq rfl rfl (fun _ => ?_) (fun _ => ?_) <;> (first | (exfalso; omega) | (exfalso; contradiction) | skip)) | (refine Wq.gtr rfl rfl (fun _ => ?_) (fun _ => ?_) <;> (first | (exfalso; omega) | (exfalso; contradiction) | skip)) | (refine Wq.geq rfl rfl (fun _ => ?_) (fun _ => ?_) <;> (first | (exfalso; omega) | (exfalso; contradiction) | skip)) | (refine Wq.eql rfl rfl (fun _ => ?_) (fun _ => ?_) <;> (first | (exfalso; omega) | (exfalso; contradiction) | skip)) | (refine Wq.neq rfl rfl (fun _ => ?_) (fun _ => ?_) <;> (first | (exfalso; omega) | (exfalso; contradiction) | skip)) | (refine Wq.seql rfl rfl (fun _ => ?_) (fun _ => ?_) <;> (first | (exfalso; omega) | (exfalso; contradiction) | skip)) | (refine Wq.sneq rfl rfl (fun _ => ?_) (fun _ => ?_) <;> (first | (exfalso; omega) | (exfalso; contradiction) | skip))); all_goals (try refine Wq.nil ?_))))
          refine Wx.qh rfl rfl rfl (Wq.load1 rfl (fun w' hw => by obtain ⟨s', hb'⟩ := hw.2; exact hb'.cell (o := 3) rfl) (Wq.nil ?_))
          (repeat' (first | refine Wx.nil ?_ | (refine Wx.qh rfl rfl rfl ?_; (try refine Wq.guardY rfl rfl ?_); (first | refine Wq.moveE (by conv => { lhs; whnf }) ?_ | refine Wq.assignE (by conv => { lhs; whnf }) ?_ | refine Wq.extract rfl rfl ?_ | refine Wq.pickTE rfl (by conv => { lhs; whnf }) ?_ | refine Wq.pickFE rfl (by conv => { lhs; whnf }) ?_ | refine Wq.notB rfl ?_ | refine Wq.lenS rfl ?_ | refine Wq.lenStr rfl ?_ | refine Wq.nilP rfl ?_ | refine Wq.fieldAddr rfl rfl ?_ | refine Wq.add rfl rfl (by omega) (by omega) ?_ | refine Wq.sub rfl rfl (by omega) (by omega) ?_ | refine Wq.mul rfl rfl (by omega) (by omega) ?_ | refine Wq.convI rfl ?_ | (refine Wq.lss rfl rfl (fun _ => ?_) (fun _ => ?_) <;> (first | (exfalso; omega) | (exfalso; contradiction) | skip)) | (refine Wq.leq rfl rfl (fun _ => ?_) (fun _ => ?_) <;> (first | (exfalso; omega) | (exfalso; contradiction) | skip)) | (refine Wq.gtr rfl rfl (fun _ => ?_) (fun _ => ?_) <;> (first | (exfalso; omega) | (exfalso; contradiction) | skip)) | (refine Wq.geq rfl rfl (fun _ => ?_) (fun _ => ?_) <;> (first | (exfalso; omega) | (exfalso; contradiction) | skip)) | (refine Wq.eql rfl rfl (fun _ => ?_) (fun _ => ?_) <;> (first | (exfalso; omega) | (exfalso; contradiction) | skip)) | (refine Wq.neq rfl rfl (fun _ => ?_) (fun _ => ?_) <;> (first | (exfalso; omega) | (exfalso; contradiction) | skip)) | (refine Wq.seql rfl rfl (fun _ => ?_) (fun _ => ?_) <;> (first | (exfalso; omega) | (exfalso; contradiction) | skip)) | (refine Wq.sneq rfl rfl (fun _ => ?_) (fun _ => ?_) <;> (first | (exfalso; omega) | (exfalso; contradiction) | skip))); all_goals (try refine Wq.nil ?_))))
          refine Wx.quiet (q := 10) (l' := [9, 11, 12, 13, 14, 15, 16, 17]) rfl rfl rfl (Wq.moveE (by conv => { lhs; whnf }) (Wq.nil ?_))
          refine Wx.oneH rfl rfl rfl rfl rfl ?_
          refine Wl.callX (rfilled_spec (n := n + 1) h1.bk (by omega) (by simp only [maxLen]; omega)) rfl ?_ ?_
          · rintro c w2 ⟨hf, rfl, c2⟩
            exact ⟨hf, rfl, n1.any.trans c2 fun _ _ e => .inl e⟩
          rintro _ w2 ⟨x, s2, hf, rfl, b2, c2⟩
          have h2 := h1.took c2 b2
          have k2 : Chg (fun k => k = b ∨ (Value.slice na nodes.length nc).ownBlock = some k) w w2 := n1.any.trans c2 fun _ _ e => .inl e
          refine Wl.nil ⟨⟨k2, s2, b2⟩, ?_⟩
          have hxl := (filM_sound hf).2
          refine Wx.qh rfl rfl rfl (Wq.strTo rfl rfl (by omega) (by omega) (Wq.nil ?_))
          rw [Int.toNat_natCast]
          generalize hnmx : x.take n = nm
          refine Wx.oneH rfl rfl rfl rfl rfl (Wl.buildF (ps := [(0, .tmp 44), (1, .tmp 50)]) (parts := [(0, vi up), (1, vs nm)]) rfl rfl (by simp [Value.cells]) (Wl.nil ⟨⟨k2, s2, b2⟩, ?_⟩))
          refine Wx.oneH rfl rfl rfl rfl rfl (Wl.buildSlice1 (R := flat ndV) (y := (⟨up, nm, []⟩, (none, 0, 0))) (Pe := No) goodNdV rfl rfl rfl rfl (by omega) (by omega) fun vt w3 ot n3 s3 hobt => ?_)
          have h3 := h2.new n3
          have k3 := k2.trans (n3.any (M := fun k => k = b ∨ (Value.slice na nodes.length nc).ownBlock = some k)) fun _ _ e => e
          refine Wl.nil ⟨⟨k3, s2, h3.bk⟩, ?_⟩
          have hzl : (nodes.zip pvs).length = nodes.length := by simp [h.tr.len]
          have ha3 := h3.tr.arr
          refine Wx.oneH rfl rfl rfl rfl rfl (Wl.appendAll goodNdV ha3 (ot.rd (mono_flat ndV)) (fun y cs hy => hy) rfl rfl (by omega) (by rw [hzl]; simp only [maxLen, List.length_singleton]; omega) (by rw [hzl]; simp only [List.length_singleton]; omega) fun nv4 w4 o4 c4 lie _ => ?_)
          have k4 := k3.trans c4 fun _ _ e => .inr e
          have b4 := h3.bk.chg c4 fun e => hnvb _ e rfl
          refine Wl.nil ⟨⟨k4, s2, b4⟩, ?_⟩
          (repeat' (first | refine Wx.nil ?_ | (refine Wx.qh rfl rfl rfl ?_; (try refine Wq.guardY rfl rfl ?_); (first | refine Wq.moveE (by conv => { lhs; whnf }) ?_ | refine Wq.assignE (by conv => { lhs; whnf }) ?_ | refine Wq.extract rfl rfl ?_ | refine Wq.pickTE rfl (by conv => { lhs; whnf }) ?_ | refine Wq.pickFE rfl (by conv => { lhs; whnf }) ?_ | refine Wq.notB rfl ?_ | refine Wq.lenS rfl ?_ | refine Wq.lenStr rfl ?_ | refine Wq.nilP rfl ?_ | refine Wq.fieldAddr rfl rfl ?_ | refine Wq.add rfl rfl (by omega) (by omega) ?_ | refine Wq.sub rfl rfl (by omega) (by omega) ?_ | refine Wq.mul rfl rfl (by omega) (by omega) ?_ | refine Wq.convI rfl ?_ | (refine Wq.lss rfl rfl (fun _ => ?_) (fun _ => ?_) <;> (first | (exfalso; omega) | (exfalso; contradiction) | skip)) | (refine Wq.leq rfl rfl (fun _ => ?_) (fun _ => ?_) <;> (first | (exfalso; omega) | (exfalso; contradiction) | skip)) | (refine Wq.gtr rfl rfl (fun _ => ?_) (fun _ => ?_) <;> (first | (exfalso; omega) | (exfalso; contradiction) | skip)) | (refine Wq.geq rfl rfl (fun _ => ?_) (fun _ => ?_) <;> (first | (exfalso; omega) | (exfalso; contradiction) | skip)) | (refine Wq.eql rfl rfl (fun _ => ?_) (fun _ => ?_) <;> (first | (exfalso; omega) | (exfalso; contradiction) | skip)) | (refine Wq.neq rfl rfl (fun _ => ?_) (fun _ => ?_) <;> (first | (exfalso; omega) | (exfalso; contradiction) | skip)) | (refine Wq.seql rfl rfl (fun _ => ?_) (fun _ => ?_) <;> (first | (exfalso; omega) | (exfalso; contradiction) | skip)) | (refine Wq.sneq rfl rfl (fun _ => ?_) (fun _ => ?_) <;> (first | (exfalso; omega) | (exfalso; contradiction) | skip))); all_goals (try refine Wq.nil ?_))))
          refine Wx.last rfl rfl rfl rfl (Wl.store1 (u := nv4) b4 rfl (show (3 : Nat) < 4 by omega) rfl (OwnS.blk1 o4) fun w5 b5 c5 => ?_)
          replace b5 : Bk w5 b tRdr (rdr names s2 tp nv4) := b5
          obtain ⟨lab5, tr4, hlab⟩ := h2.tr.snoc h2.slo (x := ⟨up, nm, []⟩) (pv := (none, 0, 0)) n3 OwnS.nil o4 c4
          have h5 : RA lo M lab5 w5 b names s2 tp nv4 tb (nodes ++ [⟨up, nm, []⟩]) (pvs ++ [(none, 0, 0)]) :=
            h2.grow (n3.any.trans c4 fun k hk e => by rw [(h2.nvb e).1]; simp) tr4 hlab b5 c5
          have kk5 : Chg (fun k => k = b ∨ lo ≤ k) w w5 := (k4.mono fun k _ e => by
            rcases e with rfl | e
            · exact .inl rfl
            · exact .inr (h.nvb e).2.1).trans c5 fun k _ e => .inl e
          have hI5 : Inv tb (nodes ++ [(⟨up, nm, []⟩ : Nd)]) := hI.snoc hnl5 rfl
          have hs2 : s2.length ≤ s.length := by have := congrArg List.length (filM_sound hf).1; simp at this; omega
          have hR : nodeM names (f + 1) up d (s, tb, nodes) = loopM names (nodeM names f) d nodes.length (s2.length + 1) (s2, tb, nodes ++ [⟨up, nm, []⟩]) := by
            conv => lhs; unfold nodeM
            rw [h0]; dsimp only; rw [if_neg (by omega), hf]; dsimp only; rw [hnmx]
          rw [hR]
          clear hR hlab tr4 b5 c5 c4 b4 k4 o4 lie ha3 k3 h3 n3 hobt ot s3 k2 h2 b2 c2 hf hxl hnmx h1 n1 hi hns h0
          generalize hRR : loopM names (nodeM names f) d nodes.length (s2.length + 1) (s2, tb, nodes ++ [⟨up, nm, []⟩]) = R
          generalize hNN : nodes.length = N at *
          have hN5 : N < (nodes ++ [(⟨up, nm, []⟩ : Nd)]).length := by simp; omega
          (repeat' (first | refine Wl.nil ?_ | refine Qseq.normal ?_ | refine Wc.block ?_))
          refine Wc.loop (σ := (Nat → Prop) × Lb × Value × List Sl × List UInt8 × List Nm × List Nd × Nat) (fun _ => [(0, ptrB b), (2, vi d), (7, vi N)])
            (fun x w' => RA lo x.1 x.2.1 w' b names x.2.2.2.2.1 tp x.2.2.1 x.2.2.2.2.2.1 x.2.2.2.2.2.2.1 x.2.2.2.1 ∧ Inv x.2.2.2.2.2.1 x.2.2.2.2.2.2.1 ∧ loopM names (nodeM names f) d N x.2.2.2.2.2.2.2 (x.2.2.2.2.1, x.2.2.2.2.2.1, x.2.2.2.2.2.2.1) = R ∧ x.2.2.2.2.1.length < x.2.2.2.2.2.2.2 ∧ N < x.2.2.2.2.2.2.1.length ∧ x.2.2.2.2.1.length ≤ s.length ∧ Chg (fun k => k = b ∨ lo ≤ k) w w')
            (fun x => x.2.2.2.2.1.length) (M, lab5, nv4, pvs ++ [(none, 0, 0)], s2, tb, nodes ++ [⟨up, nm, []⟩], s2.length + 1) ⟨rfl, rfl, rfl, trivial⟩ ⟨h5, hI5, hRR, Nat.lt_succ_self _, hN5, hs2, kk5⟩ ?_
          clear hRR h5 hI5 hN5 hs2 kk5 hnvb h hI hnl hnl5 hNN
          rintro ⟨M, lab, nv, pvs, t, tb, nds, g⟩ G w5 ⟨h, hI, hR, hg, hN, hts, k5⟩
          dsimp only at h hI hR hg hN hts
          simp only [upds]
          obtain ⟨g, rfl⟩ : ∃ k, g = k + 1 := ⟨g - 1, by omega⟩
          unfold loopM at hR
          have hbig : t.length ≤ 9223372036854775806 := by omega
          (repeat' (first | refine Wl.moveE (by conv => { lhs; whnf }) ?_ | refine Wc.seq ?_ | refine Wc.region ?_ | refine Wc.block ?_))
          refine Wl.callX (rcell_spec (most := 9) h.bk) rfl ?_ ?_
          · rintro c w6 ⟨hc, rfl, c6⟩
            rw [hc] at hR
            (repeat' (first | refine Qseq.panic ?_ | refine Qblk.panic ?_ | refine Qloop.panic ?_ | refine Qfn.panic ?_))
            exact ⟨hR.symm, rfl, k5.trans c6 fun k _ e => .inl e⟩
          rintro _ w6 ⟨c, t1, hc, rfl, b6, c6⟩
          have h6 := h.took c6 b6
          have k6 : Chg (fun k => k = b ∨ lo ≤ k) w w6 := k5.trans c6 fun k _ e => .inl e
          rw [hc] at hR
          dsimp only at hR
          have hl1 : t1.length + 4 = t.length := by have := congrArg List.length (cellM_sound hc).1; simp [cell4_length] at this; omega
          clear h c6 b6 k5 hc
          (repeat' (first | refine Wl.moveE (by conv => { lhs; whnf }) ?_ | refine Wl.assignE (by conv => { lhs; whnf }) ?_ | refine Wl.nil ?_ | refine Qseq.normal ?_ | refine Wc.seq ?_ | refine Wc.region ?_ | refine Wc.block ?_ | refine Wc.ret ?_ | refine Qblk.ret ?_ | refine Qloop.ret ?_ | refine Wc.condT rfl ?_ | refine Wc.condF rfl ?_ | refine Wl.add rfl rfl (by omega) (by omega) ?_ | refine Wl.eql rfl rfl (fun _ => ?_) (fun _ => ?_)))
          · have hc3 : c = 3 := by omega
            rw [if_pos hc3] at hR
            have hsm := hI.small
            have hlz := len_size tb
            refine Wl.callX (prop_spec h6.bk h6.tbl h6.hb.2.2 (by omega) hnm (by omega) (by omega)) rfl ?_ ?_
            · rintro c' w7 ⟨hn, rfl, c7⟩
              rw [hn] at hR
              (repeat' (first | refine Qseq.panic ?_ | refine Qblk.panic ?_ | refine Qloop.panic ?_ | refine Qfn.panic ?_))
              refine ⟨hR.symm, rfl, k6.trans c7 fun k _ e => ?_⟩
              rcases e with rfl | e
              · exact .inl rfl
              · exact .inr (h6.hM k e).1
            rintro _ w7 ⟨p, tb', t2, hp, rfl, b7, t7, c7⟩
            rw [hp] at hR
            dsimp only at hR
            obtain ⟨q1, q2, q3⟩ := propM_keeps hp
            have h7 := h6.prop c7 b7 t7
            have k7 : Chg (fun k => k = b ∨ lo ≤ k) w w7 := k6.trans c7 fun k _ e => by
              rcases e with rfl | e
              · exact .inl rfl
              · exact .inr (h6.hM k e).1
            have sM : ∀ k, (M k ∨ w6.heap.size ≤ k ∧ k < w7.heap.size) → k < w7.heap.size := fun k e => (h7.hM k e).2.1
            generalize (fun k => M k ∨ w6.heap.size ≤ k ∧ k < w7.heap.size) = M2 at h7 sM
            clear c7 b7 t7 h6 k6 hp
            skip
            refine Wl.alloc fun w8 b8 n8 s8 => ?_
            refine Wl.storeB (u := .agg (pC p).toArray) (new := pC p) b8 rfl rfl rfl rfl (show (2 : Nat) ≤ 2 from Nat.le_refl 2) (goodPr.oc (fun _ => True) w p _ rfl rfl) fun w9 b9 c9 s9 => ?_
            replace b9 : Bk w9 w7.heap.size tProp (pC p) := b9
            have n9 : New w7 w9 := Chg.trans n8 c9 fun k hk e => by omega
            have h9 := h7.new n9
            have k9 : Chg (fun k => k = b ∨ lo ≤ k) w w9 := k7.trans n9 fun _ _ e => e.elim
            have hpb : lab w7.heap.size = none := by
              cases hq : lab w7.heap.size with
              | none => rfl
              | some q => have := (h7.tr.low _ q hq).2; omega
            clear n8 b8 c9 h7 k7
            obtain ⟨x, hx⟩ := get_lt nds (k := N) hN
            obtain ⟨pv, hpv⟩ := get_lt pvs (k := N) (by rw [h9.tr.len]; exact hN)
            obtain ⟨gb, cap, hnv, hgl, hgs, hz, hcell⟩ := h9.tr.cell hx hpv
            subst hnv
            rw [hx] at hR
            dsimp only at hR
            (repeat' (first | refine Wl.moveE (by conv => { lhs; whnf }) ?_ | refine Wl.nil ?_ | refine Qseq.normal ?_ | refine Wc.seq ?_ | refine Wc.region ?_ | refine Wl.nilP rfl ?_ | refine Wl.fieldAddr rfl rfl ?_))
            refine Wl.load1 rfl (h9.bk.cell (o := 3) rfl) ?_
            (repeat' (refine Wl.moveE (by conv => { lhs; whnf }) ?_))
            refine Wl.idxP rfl rfl (by omega) (by omega) ?_
            rw [show 0 + (N : Int).toNat * 3 = N * 3 by omega]
            (repeat' (first | refine Wl.moveE (by conv => { lhs; whnf }) ?_ | refine Wl.assignE (by conv => { lhs; whnf }) ?_ | refine Wl.nil ?_ | refine Qseq.normal ?_ | refine Wc.seq ?_ | refine Wc.region ?_ | refine Wl.nilP rfl ?_ | refine Wl.fieldAddr rfl rfl ?_))
            refine Wl.load1 rfl (h9.bk.cell (o := 3) rfl) ?_
            (repeat' (first | refine Wl.moveE (by conv => { lhs; whnf }) ?_ | refine Wl.nil ?_ | refine Wl.guardY rfl rfl ?_ | refine Wl.guardN rfl rfl ?_ | refine Wl.pickTE rfl (by conv => { lhs; whnf }) ?_ | refine Wl.lenS rfl ?_ | refine Qseq.normal ?_ | refine Wc.region ?_ | refine Wc.condT rfl ?_ | refine Wl.nilP rfl ?_ | refine Wl.fieldAddr rfl rfl ?_ | refine Wl.add rfl rfl (by omega) (by omega) ?_ | refine Wl.neq rfl rfl (fun _ => ?_) (fun _ => ?_)))
            · rw [if_pos (.inl (by omega))] at hR
              refine Wl.mkIface rfl ?_
              refine Wl.panic rfl ?_
              (repeat' (first | refine Qseq.panic ?_ | refine Qblk.panic ?_ | refine Qloop.panic ?_ | refine Qfn.panic ?_))
              exact ⟨hR.symm, rfl, k9⟩
            · have hlN : nds.length = N + 1 := by omega
              have ow := h9.tr.pr N x pv hx hpv
              obtain ⟨qa, qc, hqe, _, _⟩ := ow.form
              rw [hqe] at ow
              have hpvs : pv = (qa, x.props.length, qc) := by
                obtain ⟨p1, p2, p3⟩ := pv
                simp only [slV, Value.slice.injEq] at hqe
                simp [hqe]
              subst hpvs
              have hxl := hI.pr x (List.mem_of_getElem? hx)
              refine Wl.load1 (u := .slice qa x.props.length qc) rfl (hcell 2 _ rfl) ?_
              (repeat' (first | refine Wl.nil ?_ | refine Wl.guardY rfl rfl ?_ | refine Wl.pickFE rfl (by conv => { lhs; whnf }) ?_ | refine Wl.lenS rfl ?_ | refine Qseq.normal ?_ | refine Wc.region ?_ | refine Wc.skip ?_ | refine Wc.condT rfl ?_ | refine Wc.condF rfl ?_ | refine Wl.geq rfl rfl (fun _ => ?_) (fun _ => ?_)))
              · rw [if_pos (.inr (by omega))] at hR
                refine Wl.mkIface rfl ?_
                refine Wl.panic rfl ?_
                (repeat' (first | refine Qseq.panic ?_ | refine Qblk.panic ?_ | refine Qloop.panic ?_ | refine Qfn.panic ?_))
                exact ⟨hR.symm, rfl, k9⟩
              · rw [if_neg (by omega)] at hR
                have hpn : ∀ k, (Value.slice qa x.props.length qc).ownBlock = some k → lab k = some (N + 1) := fun k hk => (ow.lt hk).1
                have hgn : (Value.slice qa x.props.length qc).ownBlock ≠ some gb := fun e => by have := hpn _ e; rw [hgl] at this; cases this
                have hbn : (Value.slice qa x.props.length qc).ownBlock ≠ some b := fun e => by have := hpn _ e; rw [h9.hb.2.1] at this; cases this
                have hcC : ∀ w', Chg (fun k => (Value.slice qa x.props.length qc).ownBlock = some k) w9 w' → w'.cell? ⟨gb, N * 3 + 2, none⟩ = some (.slice qa x.props.length qc) := fun w' hw => by
                  have := hcell 2 (.slice qa x.props.length qc) rfl
                  simp only [World.cell?] at this ⊢
                  rw [hw.block gb hgs hgn]; exact this
                have hpC : ∀ w', Chg (fun k => (Value.slice qa x.props.length qc).ownBlock = some k) w9 w' → Bk w' w7.heap.size tProp (pC p) := fun w' hw => b9.chg hw fun e => by have := hpn _ e; rw [hpb] at this; cases this
                refine Wc.regionT rfl (by kernel_rfl) (Chg (fun k => (Value.slice qa x.props.length qc).ownBlock = some k) w9) (Chg.drew _ _) ?_
                intro w10 n10
                (repeat' (first | refine Wt.quiet rfl (Wq.moveE (by conv => { lhs; whnf }) (Wq.nil ?_)) | refine Wt.quiet rfl (Wq.nilP rfl (Wq.nil ?_)) | refine Wt.quiet rfl (Wq.fieldAddr rfl rfl (Wq.nil ?_))))
                refine Wt.quiet rfl (Wq.load1 rfl (fun w' hw => hcC w' hw) (Wq.nil ?_))
                refine Wt.quiet rfl (Wq.loadAt (fun w' hw => (hpC w' hw).at) rfl rfl (Wq.nil ?_))
                refine Wt.chain rfl (Wl.buildSlice1 (R := rPr) (y := p) (Pe := No) goodPr rfl rfl rfl rfl (by omega) (by omega) fun vt w11 ot n11 s11 hobt => ?_)
                have n911 := New.trans n10 n11
                refine Wl.nil ⟨rfl, n911.any, ?_⟩
                refine Wt.chain rfl (Wl.appendAll goodPr (ow.new plainPr n911) (ot.rd (mono_flat pC)) (fun y cs hy => hy) rfl rfl (by omega) (by simp only [maxLen, List.length_singleton]; omega) (by simp only [List.length_singleton]; omega) fun pv12 w12 o12 c12 lie _ => ?_)
                have c912 : Chg (fun k => (Value.slice qa x.props.length qc).ownBlock = some k) w9 w12 := Chg.trans n911.any c12 (fun _ _ e => e)
                refine Wl.nil ⟨rfl, c912, ?_⟩
                obtain ⟨ra, rc, rfl, _, _⟩ := o12.form
                have ha12 := h9.tr.arr.chg (plain_flat ndV) c912 fun k hk e => by have := (h9.nvb hk).1; rw [hpn k e] at this; cases this
                (repeat' (first | refine Wt.quiet rfl (Wq.nilP rfl (Wq.nil ?_)) | refine Wt.quiet rfl (Wq.fieldAddr rfl rfl (Wq.nil ?_))))
                have hzl : (nds.zip pvs).length = nds.length := by simp [h9.tr.len]
                refine Wt.last rfl (Wl.storeOwnF (f := ndV) (g := gb) (j := N) (o := 2) (cap := cap) (p := (x, (qa, x.props.length, qc))) (q := ({ x with props := x.props ++ [p] }, (ra, (x.props ++ [p]).length, rc))) (u := .slice ra (x.props ++ [p]).length rc) (fun _ => rfl) (by omega) rfl hz rfl ha12 (by rw [hzl]) rfl rfl fun w13 o13 c13 => ?_)
                have sz911 := n911.size
                obtain ⟨lab', tr', hlab⟩ := h9.tr.setProps h9.slo hx hpv c912 (pv' := (ra, (x.props ++ [p]).length, rc)) (o12.mono (mono_flat pC) (fun k hk e => by
                  rcases e with e | e
                  · exact .inl e
                  · exact .inr (by omega)) fun _ _ e => e) c13 o13
                have c913 : Chg (fun k => lab k ≠ none) w9 w13 := (c912.mono fun k _ e => by rw [hpn k e]; simp).trans c13 fun k _ e => by rw [(h9.nvb e).1]; simp
                have h13 := h9.tree c913 tr' hlab
                have k13 : Chg (fun k => k = b ∨ lo ≤ k) w w13 := k9.trans c913 fun k hk e => by
                  cases hq : lab k with
                  | none => exact absurd hq e
                  | some q => exact .inr (h9.tr.low k q hq).1
                (repeat' (first | refine Wl.nil ?_ | refine Qblk.normal ?_))
                refine Qloop.normal (M2, lab', _, _, t2, tb', nds.set N { x with props := x.props ++ [p] }, g) ⟨rfl, rfl, rfl, trivial⟩ ⟨h13, hI.set hx (by omega) q2 q3, hR, ?_, ?_, ?_, k13⟩ ?_
                · dsimp only; omega
                · dsimp only; rw [List.length_set]; exact hN
                · dsimp only; omega
                · dsimp only; omega
          · have hc1 : c = 1 := by omega
            rw [if_neg (by omega), if_pos hc1] at hR
            refine Wl.callX (ih w6 M lab t1 nv tb nds pvs N (d + 1) (by omega) h6 hI (by omega)) rfl ?_ ?_
            · rintro c' w7 ⟨hn, rfl, c7⟩
              rw [hn] at hR
              (repeat' (first | refine Qblk.panic ?_ | refine Qloop.panic ?_ | refine Qfn.panic ?_))
              exact ⟨hR.symm, rfl, k6.trans c7 fun _ _ e => e⟩
            rintro _ w7 ⟨M', lab', nv', pvs', t', tb', nds', hn, rfl, h7, c7⟩
            rw [hn] at hR
            dsimp only at hR
            obtain ⟨q1, q2, q3⟩ := nodeM_keeps _ _ _ _ _ hn
            dsimp only at q1 q2 q3
            (repeat' (first | refine Wl.nil ?_ | refine Qblk.normal ?_))
            refine Qloop.normal (M', lab', nv', pvs', t', tb', nds', g) ⟨rfl, rfl, rfl, trivial⟩ ⟨h7, q3 hI, hR, ?_, ?_, ?_, k6.trans c7 fun _ _ e => e⟩ ?_
            · dsimp only; omega
            · dsimp only; omega
            · dsimp only; omega
            · dsimp only; omega
          · have hc2 : c = 2 := by omega
            rw [if_neg (by omega), if_neg (by omega), if_pos hc2] at hR
            exact Qfn.ret0 rfl ⟨M, lab, nv, pvs, t1, tb, nds, hR.symm, rfl, h6, k6⟩
          · rw [if_neg (by omega), if_neg (by omega), if_neg (by omega)] at hR
            refine Wl.mkIface rfl ?_
            refine Wl.panic rfl ?_
            (repeat' (first | refine Qblk.panic ?_ | refine Qloop.panic ?_ | refine Qfn.panic ?_))
            exact ⟨hR.symm, rfl, k6⟩
end Go.Proofs.YtlkhajheecglgaaDoor

namespace Go.Proofs.YtlkhajheecglgaaDoor
open Go Wk
open Go.RowKit (Below)
attribute [local irreducible] Go.Calls

section
variable {P : Program} {n : Nat} {ds : List Deferred} {Q : Po} {C : World → Prop} {K : Fr → Prop} {F : Fr} {w : World} {ops rest : List Oper} {d : Nat} {ty : TypeId} {pos : String} {aft : Array Edge}
theorem run_idxArrP {t e m bytes b : Nat} {agg : Bool} {z : Value} {k : IntKind} {j : Int} (ht : P.underlying t = some (.array m e)) (he : ElT P e 1 bytes agg z) (h0 : 0 ≤ j) (h1 : j < m) :
    (Instr.indexAt t (.pointer (some ⟨b, 0, none⟩)) (.int k j)).run P w = .ok (.pointer (some ⟨b, j.toNat, none⟩)) w := by
  simp [Instr.indexAt, asIntOf, run_underlying ht, h0, h1, he.sizeOf, Instr.sureAddr, addr_add]
/-- h[j] of an array's variable: its place. -/
theorem Wk.Wl.idxArrP {x i : Operand} {t e m bytes b : Nat} {agg : Bool} {z : Value} {k : IntKind} {j : Int} [ht : Und P t (.array m e)] [he : ElT P e 1 bytes agg z] (hx : ev n F x = .pointer (some ⟨b, 0, none⟩)) (hi : ev n F i = .int k j) (h0 : 0 ≤ j) (h1 : j < m)
    (c : Wl P n ds Q ops rest (upd F d (.pointer (some ⟨b, j.toNat, none⟩))) w) : Wl P n ds Q ops (⟨some d, .indexAddr t x i, ty, pos, aft, none⟩ :: rest) F w :=
  Wl.val (by simp only [execOp, hx, hi, Sem.run_bind, run_idxArrP ht.h he h0 h1, Result.andThen_ok, Sem.run_pure]) c
theorem Wk.Wq.idxArrP {x i : Operand} {t e m bytes b : Nat} {agg : Bool} {z : Value} {k : IntKind} {j : Int} [ht : Und P t (.array m e)] [he : ElT P e 1 bytes agg z] (hx : ev n F x = .pointer (some ⟨b, 0, none⟩)) (hi : ev n F i = .int k j) (h0 : 0 ≤ j) (h1 : j < m)
    (c : Wq P n ds C K ops rest (upd F d (.pointer (some ⟨b, j.toNat, none⟩)))) : Wq P n ds C K ops (⟨some d, .indexAddr t x i, ty, pos, aft, none⟩ :: rest) F :=
  Wq.val (fun w _ => by simp only [execOp, hx, hi, Sem.run_bind, run_idxArrP ht.h he h0 h1, Result.andThen_ok, Sem.run_pure]) c
end
theorem Wk.Wc.post {P : Program} {n : Nat} {ds : List Deferred} {Q : Po} {F : Fr} {w : World} {c : Code} (M : Fr → World → Prop) (h : Wc P n ds (fun e F w => e = .normal ∧ M F w) c F w) (k : ∀ F w, M F w → Q .normal F w) : Wc P n ds Q c F w := by
  unfold Wc at *
  refine wp_mono h ?_
  rintro e a' w' ⟨F', rfl, rfl, hM⟩
  exact ⟨F', rfl, k F' w' hM⟩
theorem Wk.Wc.postX {P : Program} {n : Nat} {ds : List Deferred} {Q : Po} {F : Fr} {w : World} {c : Code} (M : Fr → World → Prop) (h : Wc P n ds (Qk M Q) c F w) (k : ∀ F w, M F w → Q .normal F w) : Wc P n ds Q c F w := by
  unfold Wc at *
  refine wp_mono h ?_
  rintro e a' w' ⟨F', rfl, hM⟩
  cases e <;> first | exact ⟨F', rfl, k F' w' hM⟩ | exact ⟨F', rfl, hM⟩
section
variable {P : Program} {n : Nat} {ds : List Deferred} {Q : Po} {F : Fr} {ops : List Oper} {C : World → Prop} {w : World}
theorem Wk.Wg.qh {f q : Nat} {r : List Nat} {o : Oper} (h : nextQ ops.toArray (q :: r) = some q) (ho : ops[q]? = some o) (hl : out q (q :: r) = r) (k : Wq P n ds C (fun F' => Wg P n ds C Q ops f r F' w) ops [o] F) : Wg P n ds C Q ops (f + 1) (q :: r) F w :=
  Wg.quiet h ho hl k
theorem Wk.Wg.oneH {f j : Nat} {r : List Nat} {o : Oper} (h : nextQ ops.toArray (j :: r) = none) (hr : (j :: r).filter (availB ops.toArray (j :: r)) = [j]) (ho : ops[j]? = some o) (hjl : Nat.beq (j + 1) ops.length = false) (hl : out j (j :: r) = r)
    (k : Wl P n ds (fun e F' w' => e = .normal ∧ C w' ∧ Wg P n ds C Q ops f r F' w') ops [o] F w) : Wg P n ds C Q ops (f + 1) (j :: r) F w := Wg.one h hr ho hjl hl k
end
def preC (H : List Nat) : Option (List Nat × List UInt8) → Option (List Nat × List UInt8)
  | none => none
  | some (l, r) => some (H ++ l, r)
theorem preC_none {H : List Nat} {k : Nat} {r : List UInt8} (h : cellM 4294967295 r = none) : preC H (cellsM (k + 1) r) = none := by
  unfold cellsM; rw [h]; rfl
theorem preC_some {H : List Nat} {k n : Nat} {r s1 : List UInt8} (h : cellM 4294967295 r = some (n, s1)) : preC H (cellsM (k + 1) r) = preC (H ++ [n]) (cellsM k s1) := by
  conv => lhs; unfold cellsM
  rw [h]
  dsimp only
  cases cellsM k s1 with
  | none => rfl
  | some q => obtain ⟨l, s2⟩ := q; simp [preC]
def padH (H : List Nat) : List Value := (H ++ List.replicate (8 - H.length) 0).map fun k : Nat => vi k
theorem padH_set {H : List Nat} {n : Nat} (h : H.length < 8) : (padH H).set H.length (vi n) = padH (H ++ [n]) := by
  unfold padH
  have e : 8 - H.length = (8 - (H ++ [n]).length) + 1 := by simp; omega
  rw [e, List.replicate_succ, List.map_append, List.set_append_right _ _ (by simp)]
  simp
theorem padH_len {H : List Nat} (h : H.length ≤ 8) : (padH H).length = 8 := by unfold padH; simp; omega
abbrev tHead : TypeId := 44
abbrev tA8 : TypeId := 64
abbrev z4 : List Value := [vi 0, vi 0, vi 0, vi 0]
/-- What read comes to. -/
def ReadX (w : World) (s : List UInt8) : Ending → World → Prop :=
  RetX (fun v w' => ∃ l hd lab nv pvs, readM s = some (l, hd) ∧ v = .tuple #[nv, .agg (hd.map fun k : Nat => vi k).toArray] ∧ TrOwn w.heap.size lab w' nv l pvs ∧ New w w') (fun c w' => readM s = none ∧ c = formC ∧ New w w')
theorem readM_cells {s : List UInt8} (h : cellsM 8 s = none) : readM s = none := by unfold readM; rw [h]
def badH (n r : Nat) (h0 h1 h2 h3 h4 h5 h6 : Nat) : Prop := h0 ≠ 0xD00DFEED ∨ h1 ≠ n ∨ h2 ≠ 32 ∨ h4 ≠ 32 + h3 ∨ r < h3 ∨ h5 ≠ r - h3 ∨ h6 ≠ 17
instance (n r h0 h1 h2 h3 h4 h5 h6 : Nat) : Decidable (badH n r h0 h1 h2 h3 h4 h5 h6) := by unfold badH; exact inferInstance
theorem readM_head {s r : List UInt8} {h0 h1 h2 h3 h4 h5 h6 h7 : Nat} (h : cellsM 8 s = some ([h0, h1, h2, h3, h4, h5, h6, h7], r)) : readM s = if badH s.length r.length h0 h1 h2 h3 h4 h5 h6 then none else tailM s.length r h3 h5 h7 := by
  unfold readM; rw [h]; rfl
set_option maxRecDepth 8000 in
set_option maxHeartbeats 4000000 in
theorem read_spec {w : World} {s : List UInt8} (hs : s.length ≤ 9223372036854775806) : Calls Tryd.prog 25 #[vs s] w (ReadX w s) := by
  unfold ReadX
  refine calls_of_Wc Tryd.func25 rfl Tryd.ntmps25 rfl ?_
  (repeat' (first | refine Wl.assignE (by conv => { lhs; whnf }) ?_ | refine Wc.seq ?_ | refine Wc.region ?_))
  refine Wl.alloc fun w1 b1 n1 s1 => ?_
  replace b1 : Bk w1 w.heap.size tHead z4 := b1
  (repeat' (first | refine Wl.moveE (by conv => { lhs; whnf }) ?_ | refine Wl.nil ?_ | refine Qseq.normal ?_ | refine Wc.seq ?_ | refine Wc.region ?_))
  refine Wl.buildF (ps := [(0, .tmp 7)]) (parts := [(0, vs s)]) rfl rfl (by simp [Value.cells]) ?_
  refine Wl.box (u := .agg #[vs s, vs [], .pointer none, .slice none 0 0]) rfl fun w2 b2 n2 s2 => ?_
  replace b2 : Bk w2 w1.heap.size tRdr (rdr [] s (.pointer none) (.slice none 0 0)) := b2
  (repeat' (first | refine Wl.assignE (by conv => { lhs; whnf }) ?_ | refine Wl.nil ?_ | refine Qseq.normal ?_ | refine Wc.seq ?_ | refine Wc.region ?_))
  refine Wl.alloc fun w3 b3 n3 s3 => ?_
  replace b3 : Bk w3 w2.heap.size tA8 (padH []) := b3
  have b1 := (b1.chg n2 id).chg n3 id
  have b2 := b2.chg n3 id
  have n13 := New.trans (New.trans n1 n2) n3
  rw [show w2.heap.size = w.heap.size + 2 by omega] at b3 ⊢
  rw [show w1.heap.size = w.heap.size + 1 by omega] at b2 ⊢
  have s3' : w3.heap.size = w.heap.size + 3 := by omega
  generalize hlo : w.heap.size = lo at *
  clear n1 n2 n3 s1 s2 s3
  (repeat' (first | refine Wl.moveE (by conv => { lhs; whnf }) ?_ | refine Wl.nil ?_ | refine Qseq.normal ?_ | refine Wc.seq ?_ | refine Wc.region ?_ | refine Wc.block ?_))
  refine Wc.loop (σ := List Nat × List UInt8) (fun x => [(0, vs s), (3, ptrB lo), (4, ptrB (lo + 1)), (5, ptrB (lo + 2)), (10, vi x.1.length)])
    (fun x w' => x.1.length ≤ 8 ∧ cellsM 8 s = preC x.1 (cellsM (8 - x.1.length) x.2) ∧ Bk w' lo tHead z4 ∧ Bk w' (lo + 1) tRdr (rdr [] x.2 (.pointer none) (.slice none 0 0)) ∧ Bk w' (lo + 2) tA8 (padH x.1) ∧ New w w' ∧ x.2.length ≤ s.length) (fun x => 8 - x.1.length)
    ([], s) ⟨rfl, rfl, rfl, rfl, rfl, trivial⟩ ⟨Nat.zero_le _, ?_, b1, b2, b3, n13, Nat.le_refl _⟩ ?_
  · dsimp only [List.length_nil]
    show cellsM 8 s = preC [] (cellsM 8 s)
    cases cellsM 8 s with
    | none => rfl
    | some q => rfl
  clear b1 b2 b3 n13 s3'
  rintro ⟨H, r⟩ G w3 ⟨hH, hc, b1, b2, b3, n3, hr⟩
  dsimp only at hH hc b1 b2 b3 hr
  simp only [upds]
  (repeat' (first | refine Wl.moveE (by conv => { lhs; whnf }) ?_ | refine Wl.assignE (by conv => { lhs; whnf }) ?_ | refine Wl.nil ?_ | refine Qseq.normal ?_ | refine Wc.seq ?_ | refine Wc.region ?_ | refine Wc.block ?_ | refine Wc.skip ?_ | refine Wc.exit ?_ | refine Qseq.exit ?_ | refine Qblk.hit ?_ | refine Qloop.exit ?_ | refine Wc.condT rfl ?_ | refine Wc.condF rfl ?_ | refine Wl.lss rfl rfl (fun _ => ?_) (fun _ => ?_)))
  · obtain ⟨k, hk⟩ : ∃ k, 8 - H.length = k + 1 := ⟨7 - H.length, by omega⟩
    rw [hk] at hc
    refine Wl.callX (rcell_spec (most := 4294967295) b2) rfl ?_ ?_
    · rintro c w4 ⟨hn, rfl, c4⟩
      rw [preC_none hn] at hc
      (repeat' (first | refine Qseq.panic ?_ | refine Qblk.panic ?_ | refine Qloop.panic ?_ | refine Qfn.panic ?_))
      exact ⟨readM_cells hc, rfl, Chg.trans n3 c4 fun j hj e => by omega⟩
    rintro _ w4 ⟨n, r', hn, rfl, b2', c4⟩
    rw [preC_some hn] at hc
    have hl := congrArg List.length (cellM_sound hn).1
    simp only [List.length_append, cell4_length] at hl
    skip
    refine Wl.idxArrP rfl rfl (by omega) (by omega) ?_
    rw [Int.toNat_natCast]
    refine Wl.store1 (u := vi n) (b3.chg c4 (by omega)) rfl (show H.length < (padH H).length by rw [padH_len (by omega)]; omega) rfl rfl fun w5 b3' c5 => ?_
    rw [padH_set (by omega)] at b3'
    (repeat' (first | refine Wl.moveE (by conv => { lhs; whnf }) ?_ | refine Wl.nil ?_ | refine Qseq.normal ?_ | refine Wc.region ?_ | refine Qblk.normal ?_ | refine Wl.add rfl rfl (by omega) (by omega) ?_))
    refine Qloop.normal (H ++ [n], r') ⟨rfl, rfl, rfl, rfl, ?_, trivial⟩ ⟨?_, ?_, (b1.chg c4 (by omega)).chg c5 (by omega), b2'.chg c5 (by omega), b3', (Chg.trans n3 c4 fun j hj e => by omega).trans c5 fun j hj e => by omega, ?_⟩ ?_
    · simp; rfl
    · simp; omega
    · have : 8 - (H ++ [n]).length = k := by simp; omega
      dsimp only
      rw [this]; exact hc
    · dsimp only; omega
    · simp; omega
  · have hH8 : H.length = 8 := by omega
    obtain ⟨h0, h1, h2, h3, h4, h5, h6, h7, rfl⟩ : ∃ h0 h1 h2 h3 h4 h5 h6 h7, H = [h0, h1, h2, h3, h4, h5, h6, h7] := by
      match H, hH8 with
      | [h0, h1, h2, h3, h4, h5, h6, h7], _ => exact ⟨h0, h1, h2, h3, h4, h5, h6, h7, rfl⟩
    replace b3 : Bk w3 (lo + 2) tA8 [vi h0, vi h1, vi h2, vi h3, vi h4, vi h5, vi h6, vi h7] := b3
    have hc' : cellsM 8 s = some ([h0, h1, h2, h3, h4, h5, h6, h7], r) := hc
    rw [readM_head hc']
    have hlt : ∀ n ∈ [h0, h1, h2, h3, h4, h5, h6, h7], n < 4294967296 := (cellsM_sound hc').2.2
    have l3 : h3 < 4294967296 := hlt h3 (by simp)
    clear hc hc' hlt hH hH8
    have hld : ∀ (k : Nat) (u : Value), [vi h0, vi h1, vi h2, vi h3, vi h4, vi h5, vi h6, vi h7][k]? = some u → ∀ w', New w3 w' → w'.cell? ⟨lo + 2, k, none⟩ = some u := fun k u hu w' hw => (b3.chg hw id).cell hu
    have hls : ∀ w', New w3 w' → w'.cell? ⟨lo + 1, 0, none⟩ = some (vs r) := fun w' hw => (b2.chg hw id).cell (o := 0) rfl
    refine Wc.post (fun F w' => agrees F [(0, vs s), (3, ptrB lo), (4, ptrB (lo + 1)), (5, ptrB (lo + 2)), (73, .bool (decide (badH s.length r.length h0 h1 h2 h3 h4 h5 h6)))] ∧ New w3 w') ?_ ?_
    · refine Wc.regionN rfl (by kernel_rfl) ?_
      skip
      refine Wq.idxArrP rfl rfl (by omega) (by omega) ?_
      (try refine Wq.guardY rfl rfl ?_)
      refine Wq.load1 rfl (hld 0 _ rfl) ?_
      (repeat' (first | refine Wq.moveE (by conv => { lhs; whnf }) ?_ | refine Wq.nil ?_ | refine Wq.guardY rfl rfl ?_ | refine Wq.guardN rfl rfl ?_ | refine Wq.pickTE rfl (by conv => { lhs; whnf }) ?_ | refine Wq.neq rfl rfl (fun _ => ?_) (fun _ => ?_)))
      · intro w' n'
        exact ⟨rfl, ⟨rfl, rfl, rfl, rfl, (by rw [decide_eq_true (by unfold badH; omega)]; rfl), trivial⟩, n'⟩
      · refine Wq.idxArrP rfl rfl (by omega) (by omega) ?_
        (try refine Wq.guardY rfl rfl ?_)
        refine Wq.load1 rfl (hld 1 _ rfl) ?_
        (repeat' (first | refine Wq.moveE (by conv => { lhs; whnf }) ?_ | refine Wq.nil ?_ | refine Wq.guardY rfl rfl ?_ | refine Wq.guardN rfl rfl ?_ | refine Wq.pickTE rfl (by conv => { lhs; whnf }) ?_ | refine Wq.pickFE rfl (by conv => { lhs; whnf }) ?_ | refine Wq.lenStr rfl ?_ | refine Wq.neq rfl rfl (fun _ => ?_) (fun _ => ?_)))
        · intro w' n'
          exact ⟨rfl, ⟨rfl, rfl, rfl, rfl, (by rw [decide_eq_true (by unfold badH; omega)]; rfl), trivial⟩, n'⟩
        · refine Wq.idxArrP rfl rfl (by omega) (by omega) ?_
          (try refine Wq.guardY rfl rfl ?_)
          refine Wq.load1 rfl (hld 2 _ rfl) ?_
          (repeat' (first | refine Wq.moveE (by conv => { lhs; whnf }) ?_ | refine Wq.nil ?_ | refine Wq.guardY rfl rfl ?_ | refine Wq.guardN rfl rfl ?_ | refine Wq.pickTE rfl (by conv => { lhs; whnf }) ?_ | refine Wq.pickFE rfl (by conv => { lhs; whnf }) ?_ | refine Wq.neq rfl rfl (fun _ => ?_) (fun _ => ?_)))
          · intro w' n'
            exact ⟨rfl, ⟨rfl, rfl, rfl, rfl, (by rw [decide_eq_true (by unfold badH; omega)]; rfl), trivial⟩, n'⟩
          · refine Wq.idxArrP rfl rfl (by omega) (by omega) ?_
            (try refine Wq.guardY rfl rfl ?_)
            refine Wq.load1 rfl (hld 4 _ rfl) ?_
            (try refine Wq.guardY rfl rfl ?_)
            refine Wq.idxArrP rfl rfl (by omega) (by omega) ?_
            (try refine Wq.guardY rfl rfl ?_)
            refine Wq.load1 rfl (hld 3 _ rfl) ?_
            (repeat' (first | refine Wq.moveE (by conv => { lhs; whnf }) ?_ | refine Wq.nil ?_ | refine Wq.guardY rfl rfl ?_ | refine Wq.guardN rfl rfl ?_ | refine Wq.pickTE rfl (by conv => { lhs; whnf }) ?_ | refine Wq.pickFE rfl (by conv => { lhs; whnf }) ?_ | refine Wq.add rfl rfl (by omega) (by omega) ?_ | refine Wq.neq rfl rfl (fun _ => ?_) (fun _ => ?_)))
            · intro w' n'
              exact ⟨rfl, ⟨rfl, rfl, rfl, rfl, (by rw [decide_eq_true (by unfold badH; omega)]; rfl), trivial⟩, n'⟩
            · refine Wq.idxArrP rfl rfl (by omega) (by omega) ?_
              (try refine Wq.guardY rfl rfl ?_)
              refine Wq.load1 rfl (hld 3 _ rfl) ?_
              (repeat' (first | refine Wq.moveE (by conv => { lhs; whnf }) ?_ | refine Wq.guardY rfl rfl ?_ | refine Wq.pickFE rfl (by conv => { lhs; whnf }) ?_ | (refine Wq.lss rfl rfl (fun _ => ?_) (fun _ => ?_) <;> (first | (exfalso; omega) | skip))))
              refine Wq.idxArrP rfl rfl (by omega) (by omega) ?_
              (try refine Wq.guardY rfl rfl ?_)
              refine Wq.load1 rfl (hld 3 _ rfl) ?_
              (repeat' (first | refine Wq.moveE (by conv => { lhs; whnf }) ?_ | refine Wq.guardY rfl rfl ?_ | refine Wq.nilP rfl ?_ | refine Wq.fieldAddr rfl rfl ?_))
              refine Wq.load1 rfl hls ?_
              (repeat' (first | refine Wq.moveE (by conv => { lhs; whnf }) ?_ | refine Wq.nil ?_ | refine Wq.guardY rfl rfl ?_ | refine Wq.guardN rfl rfl ?_ | refine Wq.pickTE rfl (by conv => { lhs; whnf }) ?_ | refine Wq.pickFE rfl (by conv => { lhs; whnf }) ?_ | refine Wq.lenStr rfl ?_ | refine Wq.gtr rfl rfl (fun _ => ?_) (fun _ => ?_)))
              · intro w' n'
                exact ⟨rfl, ⟨rfl, rfl, rfl, rfl, (by rw [decide_eq_true (by unfold badH; omega)]; rfl), trivial⟩, n'⟩
              · refine Wq.idxArrP rfl rfl (by omega) (by omega) ?_
                (try refine Wq.guardY rfl rfl ?_)
                refine Wq.load1 rfl (hld 5 _ rfl) ?_
                (repeat' (first | refine Wq.moveE (by conv => { lhs; whnf }) ?_ | refine Wq.guardY rfl rfl ?_ | refine Wq.nilP rfl ?_ | refine Wq.fieldAddr rfl rfl ?_))
                refine Wq.load1 rfl hls ?_
                (repeat' (first | refine Wq.guardY rfl rfl ?_ | refine Wq.lenStr rfl ?_))
                refine Wq.idxArrP rfl rfl (by omega) (by omega) ?_
                (try refine Wq.guardY rfl rfl ?_)
                refine Wq.load1 rfl (hld 3 _ rfl) ?_
                (repeat' (first | refine Wq.moveE (by conv => { lhs; whnf }) ?_ | refine Wq.nil ?_ | refine Wq.guardY rfl rfl ?_ | refine Wq.guardN rfl rfl ?_ | refine Wq.pickTE rfl (by conv => { lhs; whnf }) ?_ | refine Wq.pickFE rfl (by conv => { lhs; whnf }) ?_ | refine Wq.sub rfl rfl (by omega) (by omega) ?_ | refine Wq.neq rfl rfl (fun _ => ?_) (fun _ => ?_)))
                · intro w' n'
                  exact ⟨rfl, ⟨rfl, rfl, rfl, rfl, (by rw [decide_eq_true (by unfold badH; omega)]; rfl), trivial⟩, n'⟩
                · refine Wq.idxArrP rfl rfl (by omega) (by omega) ?_
                  (try refine Wq.guardY rfl rfl ?_)
                  refine Wq.load1 rfl (hld 6 _ rfl) ?_
                  (repeat' (first | refine Wq.nil ?_ | refine Wq.guardY rfl rfl ?_ | refine Wq.pickFE rfl (by conv => { lhs; whnf }) ?_ | refine Wq.neq rfl rfl (fun _ => ?_) (fun _ => ?_)))
                  · intro w' n'
                    exact ⟨rfl, ⟨rfl, rfl, rfl, rfl, (by rw [decide_eq_true (by unfold badH; omega)]; rfl), trivial⟩, n'⟩
                  · intro w' n'
                    exact ⟨rfl, ⟨rfl, rfl, rfl, rfl, (by rw [decide_eq_false (by unfold badH; omega)]; rfl), trivial⟩, n'⟩
    · rintro F w4 ⟨hF, n4⟩
      refine Qseq.normal ?_
      refine Wc.frame _ hF fun G2 => ?_
      clear hF hld hls
      have n4' := New.trans n3 n4
      have b2 := b2.chg n4 id
      have b3 := b3.chg n4 id
      have b1 := b1.chg n4 id
      simp only [upds]
      by_cases hb : badH s.length r.length h0 h1 h2 h3 h4 h5 h6
      · rw [decide_eq_true hb, if_pos hb]
        (repeat' (first | refine Wc.region ?_ | refine Wc.condT rfl ?_))
        refine Wl.mkIface rfl ?_
        refine Wl.panic rfl ?_
        (repeat' (first | refine Qseq.panic ?_ | refine Qfn.panic ?_))
        exact ⟨rfl, rfl, n4'⟩
      · rw [decide_eq_false hb, if_neg hb]
        have h3r : h3 ≤ r.length := by unfold badH at hb; omega
        clear hb n4 n3
        (repeat' (first | refine Qseq.normal ?_ | refine Wc.seq ?_ | refine Wc.skip ?_ | refine Wc.condF rfl ?_))
        refine Wc.regionT rfl (by kernel_rfl) (New w4) (Chg.drew _ _) ?_
        intro w5 n5
        have b5 := b2.chg n5 id
        (repeat' (first | refine Wt.quiet rfl (Wq.moveE (by conv => { lhs; whnf }) (Wq.nil ?_)) | refine Wt.quiet rfl (Wq.nilP rfl (Wq.nil ?_)) | refine Wt.quiet rfl (Wq.fieldAddr rfl rfl (Wq.nil ?_))))
        refine Wt.quiet rfl (Wq.load1 rfl (fun w' hw => (b2.chg hw id).cell (o := 0) rfl) (Wq.nil ?_))
        refine Wt.quiet rfl (Wq.idxArrP rfl rfl (by omega) (by omega) (Wq.nil ?_))
        refine Wt.quiet rfl (Wq.load1 rfl (fun w' hw => (b3.chg hw id).cell (o := 3) rfl) (Wq.nil ?_))
        refine Wt.quiet rfl (Wq.strFrom rfl rfl (by omega) (by omega) (Wq.nil ?_))
        rw [Int.toNat_natCast]
        (repeat' (first | refine Wt.quiet rfl (Wq.nilP rfl (Wq.nil ?_)) | refine Wt.quiet rfl (Wq.fieldAddr rfl rfl (Wq.nil ?_))))
        refine Wt.last rfl (Wl.store1 (u := vs (r.drop h3)) b5 rfl (show (1 : Nat) < 4 by omega) rfl rfl fun w6 b6 c6 => ?_)
        replace b6 : Bk w6 (lo + 1) tRdr (rdr (r.drop h3) r (.pointer none) (.slice none 0 0)) := b6
        have b3' := (b3.chg n5 id).chg c6 (by omega)
        have b1' := (b1.chg n5 id).chg c6 (by omega)
        have n6 : New w w6 := Chg.trans (New.trans n4' n5) c6 fun j hj e => by omega
        clear b1 b2 b3 n4' n5 c6 b5
        (repeat' (first | refine Wl.nil ?_ | refine Qseq.normal ?_ | refine Wc.seq ?_))
        refine Wc.regionT rfl (by kernel_rfl) (New w6) (Chg.drew _ _) ?_
        intro w7 n7
        have b7 := b6.chg n7 id
        (repeat' (first | refine Wt.quiet rfl (Wq.moveE (by conv => { lhs; whnf }) (Wq.nil ?_)) | refine Wt.quiet rfl (Wq.nilP rfl (Wq.nil ?_)) | refine Wt.quiet rfl (Wq.fieldAddr rfl rfl (Wq.nil ?_))))
        refine Wt.quiet rfl (Wq.load1 rfl (fun w' hw => (b6.chg hw id).cell (o := 0) rfl) (Wq.nil ?_))
        refine Wt.quiet rfl (Wq.idxArrP rfl rfl (by omega) (by omega) (Wq.nil ?_))
        refine Wt.quiet rfl (Wq.load1 rfl (fun w' hw => (b3'.chg hw id).cell (o := 3) rfl) (Wq.nil ?_))
        refine Wt.quiet rfl (Wq.strTo rfl rfl (by omega) (by omega) (Wq.nil ?_))
        rw [Int.toNat_natCast]
        (repeat' (first | refine Wt.quiet rfl (Wq.nilP rfl (Wq.nil ?_)) | refine Wt.quiet rfl (Wq.fieldAddr rfl rfl (Wq.nil ?_))))
        refine Wt.last rfl (Wl.store1 (u := vs (r.take h3)) b7 rfl (show (0 : Nat) < 4 by omega) rfl rfl fun w8 b8 c8 => ?_)
        replace b8 : Bk w8 (lo + 1) tRdr (rdr (r.drop h3) (r.take h3) (.pointer none) (.slice none 0 0)) := b8
        have b3 := (b3'.chg n7 id).chg c8 (by omega)
        have b1 := (b1'.chg n7 id).chg c8 (by omega)
        have n8 : New w w8 := Chg.trans (New.trans n6 n7) c8 fun j hj e => by omega
        clear b1' b3' n6 n7 c8 b7 b6
        (repeat' (first | refine Wl.moveE (by conv => { lhs; whnf }) ?_ | refine Wl.nil ?_ | refine Qseq.normal ?_ | refine Wc.seq ?_ | refine Wc.region ?_))
        refine Wl.makeMap (k := 9) fun w9 m9 n9 s9 => ?_
        refine Wl.buildF (ps := [(1, .tmp 96)]) (parts := [(1, .map (some w8.heap.size))]) rfl rfl (by simp [Value.cells]) ?_
        refine Wl.box (u := .agg #[.slice none 0 0, .map (some w8.heap.size), vi 0]) rfl fun w10 b10 n10 s10 => ?_
        replace b10 : Bk w10 w9.heap.size tTbl [.slice none 0 0, .map (some w8.heap.size), vi 0] := b10
        have sz8 := n8.size
        have hlo3 := b3.lt
        have t10 : Tb (fun k => w8.heap.size ≤ k) w10 (ptrB w9.heap.size) [] :=
          ⟨w9.heap.size, w8.heap.size, .slice none 0 0, rfl, b10, m9.chg n10 id, OwnS.nil, by simp, n9.size, Nat.le_refl _, by omega⟩
        have n810 := New.trans n9 n10
        have s810 := n810.size
        have b8 := b8.chg n810 id
        have b3 := b3.chg n810 id
        have b1 := b1.chg n810 id
        have n10' := New.trans n8 n810
        generalize hpp : w9.heap.size = tb9 at t10
        (repeat' (first | refine Wl.nilP rfl ?_ | refine Wl.fieldAddr rfl rfl ?_))
        refine Wl.store1 (u := ptrB tb9) b8 rfl (show (2 : Nat) < 4 by omega) (by rw [← hpp]; rfl) rfl fun w11 b11 c11 => ?_
        replace b11 : Bk w11 (lo + 1) tRdr (rdr (r.drop h3) (r.take h3) (ptrB tb9) (.slice none 0 0)) := b11
        have t11 := t10.chg c11 (fun k hk e => by omega)
        have b3' := b3.chg c11 (by omega)
        have b1' := b1.chg c11 (by omega)
        have n11 : New w w11 := Chg.trans n10' c11 fun j hj e => by omega
        have s11 := c11.size
        have A11 : RA (lo + 3) (fun k => w8.heap.size ≤ k ∧ k < w11.heap.size) (fun _ => none) w11 (lo + 1) (r.drop h3) (r.take h3) (ptrB tb9) (.slice none 0 0) [] [] [] :=
          ⟨b11, t11.mono fun k hk e => ⟨e, hk⟩, TrOwn.nil, ⟨by omega, rfl, by omega⟩, fun k hk => ⟨by omega, hk.2, rfl⟩⟩
        clear b1 b3 b8 n10' n810 s810 t10 b10 n9 n10 m9 n8 c11 t11 b11 s9 s10 hpp
        have hrl : (r.take h3).length ≤ s.length := by rw [List.length_take]; omega
        have hrd : (r.drop h3).length ≤ s.length := by rw [List.length_drop]; omega
        have hX : ∀ (c : List PanicEntry) (w' : World), True := fun _ _ => trivial
        (repeat' (first | refine Wl.moveE (by conv => { lhs; whnf }) ?_ | refine Wl.nil ?_ | refine Qseq.normal ?_ | refine Wc.seq ?_ | refine Wc.region ?_))
        refine Wl.callX (rcell_spec (most := 1) A11.bk) rfl ?_ ?_
        · rintro c w12 ⟨hn, rfl, c12⟩
          (repeat' (first | refine Qseq.panic ?_ | refine Qfn.panic ?_))
          refine ⟨?_, rfl, Chg.trans n11 c12 fun j hj e => by omega⟩
          unfold tailM; rw [hn]
        rintro _ w12 ⟨c, t1, hc1, rfl, b12, c12⟩
        have A12 := A11.took c12 b12
        have n12 : New w w12 := Chg.trans n11 c12 fun j hj e => by omega
        have b3 := b3'.chg c12 (by omega)
        have b1 := b1'.chg c12 (by omega)
        have ht1 : t1.length ≤ s.length := by have := congrArg List.length (cellM_sound hc1).1; simp [cell4_length] at this; simp at hrl; omega
        clear b3' b1' n11 c12 b12 A11
        (repeat' (first | refine Wl.moveE (by conv => { lhs; whnf }) ?_ | refine Wl.nil ?_ | refine Qseq.normal ?_ | refine Wc.seq ?_ | refine Wc.region ?_ | refine Wc.skip ?_ | refine Wc.condT rfl ?_ | refine Wc.condF rfl ?_ | refine Wl.neq rfl rfl (fun _ => ?_) (fun _ => ?_)))
        · refine Wl.mkIface rfl ?_
          refine Wl.panic rfl ?_
          (repeat' (first | refine Qseq.panic ?_ | refine Qfn.panic ?_))
          refine ⟨?_, rfl, n12⟩
          unfold tailM; rw [hc1]; dsimp only; rw [if_pos (by omega)]
        · obtain rfl : c = 1 := by omega
          refine Wl.callX (rnode_spec (by omega) 16 w12 _ _ t1 _ [] [] [] (-1) 1 (by omega) A12 Inv.nil (by omega)) rfl ?_ ?_
          · rintro c w13 ⟨hn, rfl, c13⟩
            (repeat' (first | refine Qseq.panic ?_ | refine Qfn.panic ?_))
            refine ⟨?_, rfl, Chg.trans n12 c13 fun j hj e => by omega⟩
            unfold tailM; rw [hc1]; dsimp only; rw [if_neg (by simp), hn]
          rintro _ w13 ⟨M', lab', nv', pvs', t2, tb', nds, hn, rfl, A13, c13⟩
          have n13 : New w w13 := Chg.trans n12 c13 fun j hj e => by omega
          have b3' := b3.chg c13 (by omega)
          have b1' := b1.chg c13 (by omega)
          obtain ⟨q1, _, q3⟩ := nodeM_keeps _ _ _ _ _ hn
          dsimp only at q1 q3
          have I13 := q3 Inv.nil
          clear q3 c13 b3 b1 A12 n12
          have htx : ∀ x ∈ nds, TxOk x.props := fun x hx p hp => by have := I13.tx x hx p hp; simp only [maxLen]; omega
          obtain ⟨xa, xc, hxe, _, _⟩ := A13.tr.rd.form
          subst hxe
          let bad2 : Nat → List UInt8 → Prop := fun c9 t3 => c9 ≠ 9 ∨ t3 ≠ [] ∨ sizeN tb' ≠ (r.drop h3).length ∨ h7 ≠ nds.length ∨ treeOk nds = false
          (repeat' (first | refine Wl.nil ?_ | refine Qseq.normal ?_ | refine Wc.seq ?_))
          refine Wc.postX (fun F w' => ∃ c9 t3, cellM 9 t2 = some (c9, t3) ∧ agrees F [(0, vs s), (3, ptrB lo), (4, ptrB (lo + 1)), (5, ptrB (lo + 2)), (149, .bool (decide (bad2 c9 t3)))] ∧ Bk w' lo tHead z4 ∧ Bk w' (lo + 2) tA8 [vi h0, vi h1, vi h2, vi h3, vi h4, vi h5, vi h6, vi h7] ∧ RA (lo + 3) M' lab' w' (lo + 1) (r.drop h3) t3 (ptrB tb9) (.slice xa nds.length xc) tb' nds pvs' ∧ New w w') ?_ ?_
          · refine Wc.regionPeel2 (m := 41) (l := [2, 3, 4, 5, 6, 7, 8, 9, 10, 11, 12, 13, 14, 15, 16, 17, 18, 19, 20, 21, 22, 23, 24, 25, 26, 27, 28, 29, 30, 31, 32, 33, 34, 35, 36, 37, 38, 39, 40, 41, 42]) rfl (by kernel_rfl) rfl (by kernel_rfl) (by kernel_rfl) (by kernel_rfl) rfl rfl rfl ?_
            intro w14 n14
            have A14 := A13.new n14
            refine Wl.moveE (by conv => { lhs; whnf }) ?_
            refine Wl.nil ?_
            refine Qk.normal ?_
            refine Wl.callX (rcell_spec (most := 9) A14.bk) rfl ?_ ?_
            · rintro c w15 ⟨hn9, rfl, c15⟩
              refine Qk.panic (Qk.panic ?_)
              (repeat' (first | refine Qseq.panic ?_ | refine Qfn.panic ?_))
              refine ⟨?_, rfl, Chg.trans (New.trans n13 n14) c15 fun j hj e => by omega⟩
              unfold tailM; rw [hc1]; dsimp only; rw [if_neg (by simp), hn]; dsimp only; rw [hn9]
            rintro _ w15 ⟨c9, t3, hc9, rfl, b15, c15⟩
            have A15 := A14.took c15 b15
            have n15 : New w w15 := Chg.trans (New.trans n13 n14) c15 fun j hj e => by omega
            have b3 := (b3'.chg n14 id).chg c15 (by omega)
            have b1 := (b1'.chg n14 id).chg c15 (by omega)
            clear b3' b1' A13 A14 c15 n14 n13 b15
            refine Wl.nil ?_
            refine Qk.normal ⟨New w15, Chg.refl _ _, ?_⟩
            have ttb := A15.tbl
            obtain ⟨tbk, tm, tsl, hpe, ttb⟩ := ttb
            obtain rfl : tbk = tb9 := by simp only [Value.pointer.injEq, Option.some.injEq, Addr.mk.injEq] at hpe; exact hpe.1.symm
            (repeat' (first | refine Wg.nil ?_ | (refine Wg.qh rfl rfl rfl ?_; refine Wq.guardN rfl rfl ?_; try refine Wq.nil ?_) | (refine Wg.qh rfl rfl rfl ?_; (try refine Wq.guardY rfl rfl ?_); (first | refine Wq.moveE (by conv => { lhs; whnf }) ?_ | refine Wq.assignE (by conv => { lhs; whnf }) ?_ | refine Wq.extract rfl rfl ?_ | refine Wq.pickTE rfl (by conv => { lhs; whnf }) ?_ | refine Wq.pickFE rfl (by conv => { lhs; whnf }) ?_ | refine Wq.notB rfl ?_ | refine Wq.lenS rfl ?_ | refine Wq.lenStr rfl ?_ | refine Wq.nilP rfl ?_ | refine Wq.fieldAddr rfl rfl ?_ | refine Wq.add rfl rfl (by omega) (by omega) ?_ | refine Wq.sub rfl rfl (by omega) (by omega) ?_ | refine Wq.mul rfl rfl (by omega) (by omega) ?_ | refine Wq.convI rfl ?_ | (refine Wq.lss rfl rfl (fun _ => ?_) (fun _ => ?_) <;> (first | (exfalso; omega) | (exfalso; contradiction) | skip)) | (refine Wq.leq rfl rfl (fun _ => ?_) (fun _ => ?_) <;> (first | (exfalso; omega) | (exfalso; contradiction) | skip)) | (refine Wq.gtr rfl rfl (fun _ => ?_) (fun _ => ?_) <;> (first | (exfalso; omega) | (exfalso; contradiction) | skip)) | (refine Wq.geq rfl rfl (fun _ => ?_) (fun _ => ?_) <;> (first | (exfalso; omega) | (exfalso; contradiction) | skip)) | (refine Wq.eql rfl rfl (fun _ => ?_) (fun _ => ?_) <;> (first | (exfalso; omega) | (exfalso; contradiction) | skip)) | (refine Wq.neq rfl rfl (fun _ => ?_) (fun _ => ?_) <;> (first | (exfalso; omega) | (exfalso; contradiction) | skip)) | (refine Wq.seql rfl rfl (fun _ => ?_) (fun _ => ?_) <;> (first | (exfalso; omega) | (exfalso; contradiction) | skip)) | (refine Wq.sneq rfl rfl (fun _ => ?_) (fun _ => ?_) <;> (first | (exfalso; omega) | (exfalso; contradiction) | skip))); all_goals (try refine Wq.nil ?_))))
            · refine Wg.oneH rfl rfl rfl rfl rfl (Wl.guardN rfl rfl (Wl.nil ⟨rfl, Chg.refl _ _, ?_⟩))
              (repeat' (first | refine Wg.nil ?_ | (refine Wg.qh rfl rfl rfl ?_; refine Wq.guardN rfl rfl ?_; try refine Wq.nil ?_) | (refine Wg.qh rfl rfl rfl ?_; (try refine Wq.guardY rfl rfl ?_); (first | refine Wq.moveE (by conv => { lhs; whnf }) ?_ | refine Wq.assignE (by conv => { lhs; whnf }) ?_ | refine Wq.extract rfl rfl ?_ | refine Wq.pickTE rfl (by conv => { lhs; whnf }) ?_ | refine Wq.pickFE rfl (by conv => { lhs; whnf }) ?_ | refine Wq.notB rfl ?_ | refine Wq.lenS rfl ?_ | refine Wq.lenStr rfl ?_ | refine Wq.nilP rfl ?_ | refine Wq.fieldAddr rfl rfl ?_ | refine Wq.add rfl rfl (by omega) (by omega) ?_ | refine Wq.sub rfl rfl (by omega) (by omega) ?_ | refine Wq.mul rfl rfl (by omega) (by omega) ?_ | refine Wq.convI rfl ?_ | (refine Wq.lss rfl rfl (fun _ => ?_) (fun _ => ?_) <;> (first | (exfalso; omega) | (exfalso; contradiction) | skip)) | (refine Wq.leq rfl rfl (fun _ => ?_) (fun _ => ?_) <;> (first | (exfalso; omega) | (exfalso; contradiction) | skip)) | (refine Wq.gtr rfl rfl (fun _ => ?_) (fun _ => ?_) <;> (first | (exfalso; omega) | (exfalso; contradiction) | skip)) | (refine Wq.geq rfl rfl (fun _ => ?_) (fun _ => ?_) <;> (first | (exfalso; omega) | (exfalso; contradiction) | skip)) | (refine Wq.eql rfl rfl (fun _ => ?_) (fun _ => ?_) <;> (first | (exfalso; omega) | (exfalso; contradiction) | skip)) | (refine Wq.neq rfl rfl (fun _ => ?_) (fun _ => ?_) <;> (first | (exfalso; omega) | (exfalso; contradiction) | skip)) | (refine Wq.seql rfl rfl (fun _ => ?_) (fun _ => ?_) <;> (first | (exfalso; omega) | (exfalso; contradiction) | skip)) | (refine Wq.sneq rfl rfl (fun _ => ?_) (fun _ => ?_) <;> (first | (exfalso; omega) | (exfalso; contradiction) | skip))); all_goals (try refine Wq.nil ?_))))
              exact ⟨c9, t3, hc9, ⟨rfl, rfl, rfl, rfl, (by rw [decide_eq_true (by simp only [bad2]; omega)]; rfl), trivial⟩, b1, b3, A15, n15⟩
            · refine Wg.qh rfl rfl rfl (Wq.guardY rfl rfl (Wq.load1 rfl (fun w' hw => (A15.bk.chg hw id).cell (o := 0) rfl) (Wq.nil ?_)))
              refine Wg.qh rfl rfl rfl (Wq.guardY rfl rfl (Wq.sneq (b := []) rfl rfl (fun hne => Wq.nil ?_) (fun he => Wq.nil ?_)))
              · (repeat' (first | refine Wg.nil ?_ | (refine Wg.qh rfl rfl rfl ?_; refine Wq.guardN rfl rfl ?_; try refine Wq.nil ?_) | (refine Wg.qh rfl rfl rfl ?_; (try refine Wq.guardY rfl rfl ?_); (first | refine Wq.moveE (by conv => { lhs; whnf }) ?_ | refine Wq.assignE (by conv => { lhs; whnf }) ?_ | refine Wq.extract rfl rfl ?_ | refine Wq.pickTE rfl (by conv => { lhs; whnf }) ?_ | refine Wq.pickFE rfl (by conv => { lhs; whnf }) ?_ | refine Wq.notB rfl ?_ | refine Wq.lenS rfl ?_ | refine Wq.lenStr rfl ?_ | refine Wq.nilP rfl ?_ | refine Wq.fieldAddr rfl rfl ?_ | refine Wq.add rfl rfl (by omega) (by omega) ?_ | refine Wq.sub rfl rfl (by omega) (by omega) ?_ | refine Wq.mul rfl rfl (by omega) (by omega) ?_ | refine Wq.convI rfl ?_ | (refine Wq.lss rfl rfl (fun _ => ?_) (fun _ => ?_) <;> (first | (exfalso; omega) | (exfalso; contradiction) | skip)) | (refine Wq.leq rfl rfl (fun _ => ?_) (fun _ => ?_) <;> (first | (exfalso; omega) | (exfalso; contradiction) | skip)) | (refine Wq.gtr rfl rfl (fun _ => ?_) (fun _ => ?_) <;> (first | (exfalso; omega) | (exfalso; contradiction) | skip)) | (refine Wq.geq rfl rfl (fun _ => ?_) (fun _ => ?_) <;> (first | (exfalso; omega) | (exfalso; contradiction) | skip)) | (refine Wq.eql rfl rfl (fun _ => ?_) (fun _ => ?_) <;> (first | (exfalso; omega) | (exfalso; contradiction) | skip)) | (refine Wq.neq rfl rfl (fun _ => ?_) (fun _ => ?_) <;> (first | (exfalso; omega) | (exfalso; contradiction) | skip)) | (refine Wq.seql rfl rfl (fun _ => ?_) (fun _ => ?_) <;> (first | (exfalso; omega) | (exfalso; contradiction) | skip)) | (refine Wq.sneq rfl rfl (fun _ => ?_) (fun _ => ?_) <;> (first | (exfalso; omega) | (exfalso; contradiction) | skip))); all_goals (try refine Wq.nil ?_))))
                refine Wg.oneH rfl rfl rfl rfl rfl (Wl.guardN rfl rfl (Wl.nil ⟨rfl, Chg.refl _ _, ?_⟩))
                (repeat' (first | refine Wg.nil ?_ | (refine Wg.qh rfl rfl rfl ?_; refine Wq.guardN rfl rfl ?_; try refine Wq.nil ?_) | (refine Wg.qh rfl rfl rfl ?_; (try refine Wq.guardY rfl rfl ?_); (first | refine Wq.moveE (by conv => { lhs; whnf }) ?_ | refine Wq.assignE (by conv => { lhs; whnf }) ?_ | refine Wq.extract rfl rfl ?_ | refine Wq.pickTE rfl (by conv => { lhs; whnf }) ?_ | refine Wq.pickFE rfl (by conv => { lhs; whnf }) ?_ | refine Wq.notB rfl ?_ | refine Wq.lenS rfl ?_ | refine Wq.lenStr rfl ?_ | refine Wq.nilP rfl ?_ | refine Wq.fieldAddr rfl rfl ?_ | refine Wq.add rfl rfl (by omega) (by omega) ?_ | refine Wq.sub rfl rfl (by omega) (by omega) ?_ | refine Wq.mul rfl rfl (by omega) (by omega) ?_ | refine Wq.convI rfl ?_ | (refine Wq.lss rfl rfl (fun _ => ?_) (fun _ => ?_) <;> (first | (exfalso; omega) | (exfalso; contradiction) | skip)) | (refine Wq.leq rfl rfl (fun _ => ?_) (fun _ => ?_) <;> (first | (exfalso; omega) | (exfalso; contradiction) | skip)) | (refine Wq.gtr rfl rfl (fun _ => ?_) (fun _ => ?_) <;> (first | (exfalso; omega) | (exfalso; contradiction) | skip)) | (refine Wq.geq rfl rfl (fun _ => ?_) (fun _ => ?_) <;> (first | (exfalso; omega) | (exfalso; contradiction) | skip)) | (refine Wq.eql rfl rfl (fun _ => ?_) (fun _ => ?_) <;> (first | (exfalso; omega) | (exfalso; contradiction) | skip)) | (refine Wq.neq rfl rfl (fun _ => ?_) (fun _ => ?_) <;> (first | (exfalso; omega) | (exfalso; contradiction) | skip)) | (refine Wq.seql rfl rfl (fun _ => ?_) (fun _ => ?_) <;> (first | (exfalso; omega) | (exfalso; contradiction) | skip)) | (refine Wq.sneq rfl rfl (fun _ => ?_) (fun _ => ?_) <;> (first | (exfalso; omega) | (exfalso; contradiction) | skip))); all_goals (try refine Wq.nil ?_))))
                exact ⟨c9, t3, hc9, ⟨rfl, rfl, rfl, rfl, (by rw [decide_eq_true (by simp only [bad2]; exact .inr (.inl hne))]; rfl), trivial⟩, b1, b3, A15, n15⟩
              · (repeat' (first | refine Wg.nil ?_ | (refine Wg.qh rfl rfl rfl ?_; refine Wq.guardN rfl rfl ?_; try refine Wq.nil ?_) | (refine Wg.qh rfl rfl rfl ?_; (try refine Wq.guardY rfl rfl ?_); (first | refine Wq.moveE (by conv => { lhs; whnf }) ?_ | refine Wq.assignE (by conv => { lhs; whnf }) ?_ | refine Wq.extract rfl rfl ?_ | refine Wq.pickTE rfl (by conv => { lhs; whnf }) ?_ | refine Wq.pickFE rfl (by conv => { lhs; whnf }) ?_ | refine Wq.notB rfl ?_ | refine Wq.lenS rfl ?_ | refine Wq.lenStr rfl ?_ | refine Wq.nilP rfl ?_ | refine Wq.fieldAddr rfl rfl ?_ | refine Wq.add rfl rfl (by omega) (by omega) ?_ | refine Wq.sub rfl rfl (by omega) (by omega) ?_ | refine Wq.mul rfl rfl (by omega) (by omega) ?_ | refine Wq.convI rfl ?_ | (refine Wq.lss rfl rfl (fun _ => ?_) (fun _ => ?_) <;> (first | (exfalso; omega) | (exfalso; contradiction) | skip)) | (refine Wq.leq rfl rfl (fun _ => ?_) (fun _ => ?_) <;> (first | (exfalso; omega) | (exfalso; contradiction) | skip)) | (refine Wq.gtr rfl rfl (fun _ => ?_) (fun _ => ?_) <;> (first | (exfalso; omega) | (exfalso; contradiction) | skip)) | (refine Wq.geq rfl rfl (fun _ => ?_) (fun _ => ?_) <;> (first | (exfalso; omega) | (exfalso; contradiction) | skip)) | (refine Wq.eql rfl rfl (fun _ => ?_) (fun _ => ?_) <;> (first | (exfalso; omega) | (exfalso; contradiction) | skip)) | (refine Wq.neq rfl rfl (fun _ => ?_) (fun _ => ?_) <;> (first | (exfalso; omega) | (exfalso; contradiction) | skip)) | (refine Wq.seql rfl rfl (fun _ => ?_) (fun _ => ?_) <;> (first | (exfalso; omega) | (exfalso; contradiction) | skip)) | (refine Wq.sneq rfl rfl (fun _ => ?_) (fun _ => ?_) <;> (first | (exfalso; omega) | (exfalso; contradiction) | skip))); all_goals (try refine Wq.nil ?_))))
                refine Wg.qh rfl rfl rfl (Wq.guardY rfl rfl (Wq.load1 rfl (fun w' hw => (A15.bk.chg hw id).cell (o := 2) rfl) (Wq.nil ?_)))
                (repeat' (first | refine Wg.nil ?_ | (refine Wg.qh rfl rfl rfl ?_; refine Wq.guardN rfl rfl ?_; try refine Wq.nil ?_) | (refine Wg.qh rfl rfl rfl ?_; (try refine Wq.guardY rfl rfl ?_); (first | refine Wq.moveE (by conv => { lhs; whnf }) ?_ | refine Wq.assignE (by conv => { lhs; whnf }) ?_ | refine Wq.extract rfl rfl ?_ | refine Wq.pickTE rfl (by conv => { lhs; whnf }) ?_ | refine Wq.pickFE rfl (by conv => { lhs; whnf }) ?_ | refine Wq.notB rfl ?_ | refine Wq.lenS rfl ?_ | refine Wq.lenStr rfl ?_ | refine Wq.nilP rfl ?_ | refine Wq.fieldAddr rfl rfl ?_ | refine Wq.add rfl rfl (by omega) (by omega) ?_ | refine Wq.sub rfl rfl (by omega) (by omega) ?_ | refine Wq.mul rfl rfl (by omega) (by omega) ?_ | refine Wq.convI rfl ?_ | (refine Wq.lss rfl rfl (fun _ => ?_) (fun _ => ?_) <;> (first | (exfalso; omega) | (exfalso; contradiction) | skip)) | (refine Wq.leq rfl rfl (fun _ => ?_) (fun _ => ?_) <;> (first | (exfalso; omega) | (exfalso; contradiction) | skip)) | (refine Wq.gtr rfl rfl (fun _ => ?_) (fun _ => ?_) <;> (first | (exfalso; omega) | (exfalso; contradiction) | skip)) | (refine Wq.geq rfl rfl (fun _ => ?_) (fun _ => ?_) <;> (first | (exfalso; omega) | (exfalso; contradiction) | skip)) | (refine Wq.eql rfl rfl (fun _ => ?_) (fun _ => ?_) <;> (first | (exfalso; omega) | (exfalso; contradiction) | skip)) | (refine Wq.neq rfl rfl (fun _ => ?_) (fun _ => ?_) <;> (first | (exfalso; omega) | (exfalso; contradiction) | skip)) | (refine Wq.seql rfl rfl (fun _ => ?_) (fun _ => ?_) <;> (first | (exfalso; omega) | (exfalso; contradiction) | skip)) | (refine Wq.sneq rfl rfl (fun _ => ?_) (fun _ => ?_) <;> (first | (exfalso; omega) | (exfalso; contradiction) | skip))); all_goals (try refine Wq.nil ?_))))
                refine Wg.qh rfl rfl rfl (Wq.guardY rfl rfl (Wq.load1 rfl (fun w' hw => (ttb.bk.chg hw id).cell (o := 2) rfl) (Wq.nil ?_)))
                (repeat' (first | refine Wg.nil ?_ | (refine Wg.qh rfl rfl rfl ?_; refine Wq.guardN rfl rfl ?_; try refine Wq.nil ?_) | (refine Wg.qh rfl rfl rfl ?_; (try refine Wq.guardY rfl rfl ?_); (first | refine Wq.moveE (by conv => { lhs; whnf }) ?_ | refine Wq.assignE (by conv => { lhs; whnf }) ?_ | refine Wq.extract rfl rfl ?_ | refine Wq.pickTE rfl (by conv => { lhs; whnf }) ?_ | refine Wq.pickFE rfl (by conv => { lhs; whnf }) ?_ | refine Wq.notB rfl ?_ | refine Wq.lenS rfl ?_ | refine Wq.lenStr rfl ?_ | refine Wq.nilP rfl ?_ | refine Wq.fieldAddr rfl rfl ?_ | refine Wq.add rfl rfl (by omega) (by omega) ?_ | refine Wq.sub rfl rfl (by omega) (by omega) ?_ | refine Wq.mul rfl rfl (by omega) (by omega) ?_ | refine Wq.convI rfl ?_ | (refine Wq.lss rfl rfl (fun _ => ?_) (fun _ => ?_) <;> (first | (exfalso; omega) | (exfalso; contradiction) | skip)) | (refine Wq.leq rfl rfl (fun _ => ?_) (fun _ => ?_) <;> (first | (exfalso; omega) | (exfalso; contradiction) | skip)) | (refine Wq.gtr rfl rfl (fun _ => ?_) (fun _ => ?_) <;> (first | (exfalso; omega) | (exfalso; contradiction) | skip)) | (refine Wq.geq rfl rfl (fun _ => ?_) (fun _ => ?_) <;> (first | (exfalso; omega) | (exfalso; contradiction) | skip)) | (refine Wq.eql rfl rfl (fun _ => ?_) (fun _ => ?_) <;> (first | (exfalso; omega) | (exfalso; contradiction) | skip)) | (refine Wq.neq rfl rfl (fun _ => ?_) (fun _ => ?_) <;> (first | (exfalso; omega) | (exfalso; contradiction) | skip)) | (refine Wq.seql rfl rfl (fun _ => ?_) (fun _ => ?_) <;> (first | (exfalso; omega) | (exfalso; contradiction) | skip)) | (refine Wq.sneq rfl rfl (fun _ => ?_) (fun _ => ?_) <;> (first | (exfalso; omega) | (exfalso; contradiction) | skip))); all_goals (try refine Wq.nil ?_))))
                refine Wg.qh rfl rfl rfl (Wq.guardY rfl rfl (Wq.load1 rfl (fun w' hw => (A15.bk.chg hw id).cell (o := 1) rfl) (Wq.nil ?_)))
                (repeat' (first | refine Wg.nil ?_ | (refine Wg.qh rfl rfl rfl ?_; refine Wq.guardN rfl rfl ?_; try refine Wq.nil ?_) | (refine Wg.qh rfl rfl rfl ?_; (try refine Wq.guardY rfl rfl ?_); (first | refine Wq.moveE (by conv => { lhs; whnf }) ?_ | refine Wq.assignE (by conv => { lhs; whnf }) ?_ | refine Wq.extract rfl rfl ?_ | refine Wq.pickTE rfl (by conv => { lhs; whnf }) ?_ | refine Wq.pickFE rfl (by conv => { lhs; whnf }) ?_ | refine Wq.notB rfl ?_ | refine Wq.lenS rfl ?_ | refine Wq.lenStr rfl ?_ | refine Wq.nilP rfl ?_ | refine Wq.fieldAddr rfl rfl ?_ | refine Wq.add rfl rfl (by omega) (by omega) ?_ | refine Wq.sub rfl rfl (by omega) (by omega) ?_ | refine Wq.mul rfl rfl (by omega) (by omega) ?_ | refine Wq.convI rfl ?_ | (refine Wq.lss rfl rfl (fun _ => ?_) (fun _ => ?_) <;> (first | (exfalso; omega) | (exfalso; contradiction) | skip)) | (refine Wq.leq rfl rfl (fun _ => ?_) (fun _ => ?_) <;> (first | (exfalso; omega) | (exfalso; contradiction) | skip)) | (refine Wq.gtr rfl rfl (fun _ => ?_) (fun _ => ?_) <;> (first | (exfalso; omega) | (exfalso; contradiction) | skip)) | (refine Wq.geq rfl rfl (fun _ => ?_) (fun _ => ?_) <;> (first | (exfalso; omega) | (exfalso; contradiction) | skip)) | (refine Wq.eql rfl rfl (fun _ => ?_) (fun _ => ?_) <;> (first | (exfalso; omega) | (exfalso; contradiction) | skip)) | (refine Wq.neq rfl rfl (fun _ => ?_) (fun _ => ?_) <;> (first | (exfalso; omega) | (exfalso; contradiction) | skip)) | (refine Wq.seql rfl rfl (fun _ => ?_) (fun _ => ?_) <;> (first | (exfalso; omega) | (exfalso; contradiction) | skip)) | (refine Wq.sneq rfl rfl (fun _ => ?_) (fun _ => ?_) <;> (first | (exfalso; omega) | (exfalso; contradiction) | skip))); all_goals (try refine Wq.nil ?_))))
                · refine Wg.oneH rfl rfl rfl rfl rfl (Wl.guardN rfl rfl (Wl.nil ⟨rfl, Chg.refl _ _, ?_⟩))
                  (repeat' (first | refine Wg.nil ?_ | (refine Wg.qh rfl rfl rfl ?_; refine Wq.guardN rfl rfl ?_; try refine Wq.nil ?_) | (refine Wg.qh rfl rfl rfl ?_; (try refine Wq.guardY rfl rfl ?_); (first | refine Wq.moveE (by conv => { lhs; whnf }) ?_ | refine Wq.assignE (by conv => { lhs; whnf }) ?_ | refine Wq.extract rfl rfl ?_ | refine Wq.pickTE rfl (by conv => { lhs; whnf }) ?_ | refine Wq.pickFE rfl (by conv => { lhs; whnf }) ?_ | refine Wq.notB rfl ?_ | refine Wq.lenS rfl ?_ | refine Wq.lenStr rfl ?_ | refine Wq.nilP rfl ?_ | refine Wq.fieldAddr rfl rfl ?_ | refine Wq.add rfl rfl (by omega) (by omega) ?_ | refine Wq.sub rfl rfl (by omega) (by omega) ?_ | refine Wq.mul rfl rfl (by omega) (by omega) ?_ | refine Wq.convI rfl ?_ | (refine Wq.lss rfl rfl (fun _ => ?_) (fun _ => ?_) <;> (first | (exfalso; omega) | (exfalso; contradiction) | skip)) | (refine Wq.leq rfl rfl (fun _ => ?_) (fun _ => ?_) <;> (first | (exfalso; omega) | (exfalso; contradiction) | skip)) | (refine Wq.gtr rfl rfl (fun _ => ?_) (fun _ => ?_) <;> (first | (exfalso; omega) | (exfalso; contradiction) | skip)) | (refine Wq.geq rfl rfl (fun _ => ?_) (fun _ => ?_) <;> (first | (exfalso; omega) | (exfalso; contradiction) | skip)) | (refine Wq.eql rfl rfl (fun _ => ?_) (fun _ => ?_) <;> (first | (exfalso; omega) | (exfalso; contradiction) | skip)) | (refine Wq.neq rfl rfl (fun _ => ?_) (fun _ => ?_) <;> (first | (exfalso; omega) | (exfalso; contradiction) | skip)) | (refine Wq.seql rfl rfl (fun _ => ?_) (fun _ => ?_) <;> (first | (exfalso; omega) | (exfalso; contradiction) | skip)) | (refine Wq.sneq rfl rfl (fun _ => ?_) (fun _ => ?_) <;> (first | (exfalso; omega) | (exfalso; contradiction) | skip))); all_goals (try refine Wq.nil ?_))))
                  exact ⟨c9, t3, hc9, ⟨rfl, rfl, rfl, rfl, (by rw [decide_eq_true (by simp only [bad2]; omega)]; rfl), trivial⟩, b1, b3, A15, n15⟩
                · refine Wg.qh rfl rfl rfl (Wq.guardY rfl rfl (Wq.idxArrP rfl rfl (by omega) (by omega) (Wq.nil ?_)))
                  refine Wg.qh rfl rfl rfl (Wq.guardY rfl rfl (Wq.load1 rfl (fun w' hw => (b3.chg hw id).cell (o := 7) rfl) (Wq.nil ?_)))
                  (repeat' (first | refine Wg.nil ?_ | (refine Wg.qh rfl rfl rfl ?_; refine Wq.guardN rfl rfl ?_; try refine Wq.nil ?_) | (refine Wg.qh rfl rfl rfl ?_; (try refine Wq.guardY rfl rfl ?_); (first | refine Wq.moveE (by conv => { lhs; whnf }) ?_ | refine Wq.assignE (by conv => { lhs; whnf }) ?_ | refine Wq.extract rfl rfl ?_ | refine Wq.pickTE rfl (by conv => { lhs; whnf }) ?_ | refine Wq.pickFE rfl (by conv => { lhs; whnf }) ?_ | refine Wq.notB rfl ?_ | refine Wq.lenS rfl ?_ | refine Wq.lenStr rfl ?_ | refine Wq.nilP rfl ?_ | refine Wq.fieldAddr rfl rfl ?_ | refine Wq.add rfl rfl (by omega) (by omega) ?_ | refine Wq.sub rfl rfl (by omega) (by omega) ?_ | refine Wq.mul rfl rfl (by omega) (by omega) ?_ | refine Wq.convI rfl ?_ | (refine Wq.lss rfl rfl (fun _ => ?_) (fun _ => ?_) <;> (first | (exfalso; omega) | (exfalso; contradiction) | skip)) | (refine Wq.leq rfl rfl (fun _ => ?_) (fun _ => ?_) <;> (first | (exfalso; omega) | (exfalso; contradiction) | skip)) | (refine Wq.gtr rfl rfl (fun _ => ?_) (fun _ => ?_) <;> (first | (exfalso; omega) | (exfalso; contradiction) | skip)) | (refine Wq.geq rfl rfl (fun _ => ?_) (fun _ => ?_) <;> (first | (exfalso; omega) | (exfalso; contradiction) | skip)) | (refine Wq.eql rfl rfl (fun _ => ?_) (fun _ => ?_) <;> (first | (exfalso; omega) | (exfalso; contradiction) | skip)) | (refine Wq.neq rfl rfl (fun _ => ?_) (fun _ => ?_) <;> (first | (exfalso; omega) | (exfalso; contradiction) | skip)) | (refine Wq.seql rfl rfl (fun _ => ?_) (fun _ => ?_) <;> (first | (exfalso; omega) | (exfalso; contradiction) | skip)) | (refine Wq.sneq rfl rfl (fun _ => ?_) (fun _ => ?_) <;> (first | (exfalso; omega) | (exfalso; contradiction) | skip))); all_goals (try refine Wq.nil ?_))))
                  refine Wg.qh rfl rfl rfl (Wq.guardY rfl rfl (Wq.load1 rfl (fun w' hw => (A15.bk.chg hw id).cell (o := 3) rfl) (Wq.nil ?_)))
                  (repeat' (first | refine Wg.nil ?_ | (refine Wg.qh rfl rfl rfl ?_; refine Wq.guardN rfl rfl ?_; try refine Wq.nil ?_) | (refine Wg.qh rfl rfl rfl ?_; (try refine Wq.guardY rfl rfl ?_); (first | refine Wq.moveE (by conv => { lhs; whnf }) ?_ | refine Wq.assignE (by conv => { lhs; whnf }) ?_ | refine Wq.extract rfl rfl ?_ | refine Wq.pickTE rfl (by conv => { lhs; whnf }) ?_ | refine Wq.pickFE rfl (by conv => { lhs; whnf }) ?_ | refine Wq.notB rfl ?_ | refine Wq.lenS rfl ?_ | refine Wq.lenStr rfl ?_ | refine Wq.nilP rfl ?_ | refine Wq.fieldAddr rfl rfl ?_ | refine Wq.add rfl rfl (by omega) (by omega) ?_ | refine Wq.sub rfl rfl (by omega) (by omega) ?_ | refine Wq.mul rfl rfl (by omega) (by omega) ?_ | refine Wq.convI rfl ?_ | (refine Wq.lss rfl rfl (fun _ => ?_) (fun _ => ?_) <;> (first | (exfalso; omega) | (exfalso; contradiction) | skip)) | (refine Wq.leq rfl rfl (fun _ => ?_) (fun _ => ?_) <;> (first | (exfalso; omega) | (exfalso; contradiction) | skip)) | (refine Wq.gtr rfl rfl (fun _ => ?_) (fun _ => ?_) <;> (first | (exfalso; omega) | (exfalso; contradiction) | skip)) | (refine Wq.geq rfl rfl (fun _ => ?_) (fun _ => ?_) <;> (first | (exfalso; omega) | (exfalso; contradiction) | skip)) | (refine Wq.eql rfl rfl (fun _ => ?_) (fun _ => ?_) <;> (first | (exfalso; omega) | (exfalso; contradiction) | skip)) | (refine Wq.neq rfl rfl (fun _ => ?_) (fun _ => ?_) <;> (first | (exfalso; omega) | (exfalso; contradiction) | skip)) | (refine Wq.seql rfl rfl (fun _ => ?_) (fun _ => ?_) <;> (first | (exfalso; omega) | (exfalso; contradiction) | skip)) | (refine Wq.sneq rfl rfl (fun _ => ?_) (fun _ => ?_) <;> (first | (exfalso; omega) | (exfalso; contradiction) | skip))); all_goals (try refine Wq.nil ?_))))
                  · refine Wg.oneH rfl rfl rfl rfl rfl (Wl.guardN rfl rfl (Wl.nil ⟨rfl, Chg.refl _ _, ?_⟩))
                    (repeat' (first | refine Wg.nil ?_ | (refine Wg.qh rfl rfl rfl ?_; refine Wq.guardN rfl rfl ?_; try refine Wq.nil ?_) | (refine Wg.qh rfl rfl rfl ?_; (try refine Wq.guardY rfl rfl ?_); (first | refine Wq.moveE (by conv => { lhs; whnf }) ?_ | refine Wq.assignE (by conv => { lhs; whnf }) ?_ | refine Wq.extract rfl rfl ?_ | refine Wq.pickTE rfl (by conv => { lhs; whnf }) ?_ | refine Wq.pickFE rfl (by conv => { lhs; whnf }) ?_ | refine Wq.notB rfl ?_ | refine Wq.lenS rfl ?_ | refine Wq.lenStr rfl ?_ | refine Wq.nilP rfl ?_ | refine Wq.fieldAddr rfl rfl ?_ | refine Wq.add rfl rfl (by omega) (by omega) ?_ | refine Wq.sub rfl rfl (by omega) (by omega) ?_ | refine Wq.mul rfl rfl (by omega) (by omega) ?_ | refine Wq.convI rfl ?_ | (refine Wq.lss rfl rfl (fun _ => ?_) (fun _ => ?_) <;> (first | (exfalso; omega) | (exfalso; contradiction) | skip)) | (refine Wq.leq rfl rfl (fun _ => ?_) (fun _ => ?_) <;> (first | (exfalso; omega) | (exfalso; contradiction) | skip)) | (refine Wq.gtr rfl rfl (fun _ => ?_) (fun _ => ?_) <;> (first | (exfalso; omega) | (exfalso; contradiction) | skip)) | (refine Wq.geq rfl rfl (fun _ => ?_) (fun _ => ?_) <;> (first | (exfalso; omega) | (exfalso; contradiction) | skip)) | (refine Wq.eql rfl rfl (fun _ => ?_) (fun _ => ?_) <;> (first | (exfalso; omega) | (exfalso; contradiction) | skip)) | (refine Wq.neq rfl rfl (fun _ => ?_) (fun _ => ?_) <;> (first | (exfalso; omega) | (exfalso; contradiction) | skip)) | (refine Wq.seql rfl rfl (fun _ => ?_) (fun _ => ?_) <;> (first | (exfalso; omega) | (exfalso; contradiction) | skip)) | (refine Wq.sneq rfl rfl (fun _ => ?_) (fun _ => ?_) <;> (first | (exfalso; omega) | (exfalso; contradiction) | skip))); all_goals (try refine Wq.nil ?_))))
                    exact ⟨c9, t3, hc9, ⟨rfl, rfl, rfl, rfl, (by rw [decide_eq_true (by simp only [bad2]; omega)]; rfl), trivial⟩, b1, b3, A15, n15⟩
                  · refine Wg.qh rfl rfl rfl (Wq.guardY rfl rfl (Wq.load1 rfl (fun w' hw => (A15.bk.chg hw id).cell (o := 3) rfl) (Wq.nil ?_)))
                    refine Wg.oneH rfl rfl rfl rfl rfl (Wl.guardY rfl rfl (Wl.call (tree_spec A15.tr.rd htx) rfl ?_))
                    rintro _ w16 ⟨rfl, n16⟩
                    refine Wl.nil ⟨rfl, n16, ?_⟩
                    (repeat' (first | refine Wg.nil ?_ | (refine Wg.qh rfl rfl rfl ?_; refine Wq.guardN rfl rfl ?_; try refine Wq.nil ?_) | (refine Wg.qh rfl rfl rfl ?_; (try refine Wq.guardY rfl rfl ?_); (first | refine Wq.moveE (by conv => { lhs; whnf }) ?_ | refine Wq.assignE (by conv => { lhs; whnf }) ?_ | refine Wq.extract rfl rfl ?_ | refine Wq.pickTE rfl (by conv => { lhs; whnf }) ?_ | refine Wq.pickFE rfl (by conv => { lhs; whnf }) ?_ | refine Wq.notB rfl ?_ | refine Wq.lenS rfl ?_ | refine Wq.lenStr rfl ?_ | refine Wq.nilP rfl ?_ | refine Wq.fieldAddr rfl rfl ?_ | refine Wq.add rfl rfl (by omega) (by omega) ?_ | refine Wq.sub rfl rfl (by omega) (by omega) ?_ | refine Wq.mul rfl rfl (by omega) (by omega) ?_ | refine Wq.convI rfl ?_ | (refine Wq.lss rfl rfl (fun _ => ?_) (fun _ => ?_) <;> (first | (exfalso; omega) | (exfalso; contradiction) | skip)) | (refine Wq.leq rfl rfl (fun _ => ?_) (fun _ => ?_) <;> (first | (exfalso; omega) | (exfalso; contradiction) | skip)) | (refine Wq.gtr rfl rfl (fun _ => ?_) (fun _ => ?_) <;> (first | (exfalso; omega) | (exfalso; contradiction) | skip)) | (refine Wq.geq rfl rfl (fun _ => ?_) (fun _ => ?_) <;> (first | (exfalso; omega) | (exfalso; contradiction) | skip)) | (refine Wq.eql rfl rfl (fun _ => ?_) (fun _ => ?_) <;> (first | (exfalso; omega) | (exfalso; contradiction) | skip)) | (refine Wq.neq rfl rfl (fun _ => ?_) (fun _ => ?_) <;> (first | (exfalso; omega) | (exfalso; contradiction) | skip)) | (refine Wq.seql rfl rfl (fun _ => ?_) (fun _ => ?_) <;> (first | (exfalso; omega) | (exfalso; contradiction) | skip)) | (refine Wq.sneq rfl rfl (fun _ => ?_) (fun _ => ?_) <;> (first | (exfalso; omega) | (exfalso; contradiction) | skip))); all_goals (try refine Wq.nil ?_))))
                    refine ⟨c9, t3, hc9, ⟨rfl, rfl, rfl, rfl, ?_, trivial⟩, b1.chg n16 id, b3.chg n16 id, A15.new n16, New.trans n15 n16⟩
                    show Value.bool (!treeOk nds) = _
                    congr 1
                    simp only [bad2]
                    rw [he]
                    cases htk : treeOk nds with
                    | false => exact (decide_eq_true (.inr (.inr (.inr (.inr rfl))))).symm
                    | true =>
                      refine (decide_eq_false ?_).symm
                      rintro (h | h | h | h | h)
                      · omega
                      · exact h rfl
                      · omega
                      · omega
                      · cases h
          · rintro F w14 ⟨c9, t3, hc9, hF, b1, b3, A14, n14⟩
            refine Qseq.normal ?_
            refine Wc.frame _ hF fun G3 => ?_
            clear hF b3' b1' A13 n13
            simp only [upds]
            have hT : tailM s.length r h3 h5 h7 = if bad2 c9 t3 then none else some (nds, [s.length, h3, h5, h7]) := by
              unfold tailM; rw [hc1]; dsimp only; rw [if_neg (by simp), hn]; dsimp only; rw [hc9]
            by_cases hb : bad2 c9 t3
            · rw [decide_eq_true hb]
              rw [if_pos hb] at hT
              (repeat' (first | refine Wc.region ?_ | refine Wc.condT rfl ?_))
              refine Wl.mkIface rfl ?_
              refine Wl.panic rfl ?_
              (repeat' (first | refine Qseq.panic ?_ | refine Qfn.panic ?_))
              exact ⟨hT, rfl, n14⟩
            · rw [decide_eq_false hb]
              rw [if_neg hb] at hT
              rw [hT]
              (repeat' (first | refine Qseq.normal ?_ | refine Wc.seq ?_ | refine Wc.skip ?_ | refine Wc.condF rfl ?_))
              refine Wc.regionT rfl (by kernel_rfl) (New w14) (Chg.drew _ _) ?_
              intro w15 n15
              (repeat' (first | refine Wt.quiet rfl (Wq.moveE (by conv => { lhs; whnf }) (Wq.nil ?_)) | refine Wt.quiet rfl (Wq.nilP rfl (Wq.nil ?_)) | refine Wt.quiet rfl (Wq.fieldAddr rfl rfl (Wq.nil ?_))))
              refine Wt.quiet rfl (Wq.load1 rfl (fun w' hw => (A14.bk.chg hw id).cell (o := 3) rfl) (Wq.nil ?_))
              (repeat' (first | refine Wt.quiet rfl (Wq.moveE (by conv => { lhs; whnf }) (Wq.nil ?_)) | refine Wt.quiet rfl (Wq.lenStr rfl (Wq.nil ?_))))
              refine Wt.quiet rfl (Wq.idxArrP rfl rfl (by omega) (by omega) (Wq.nil ?_))
              refine Wt.quiet rfl (Wq.load1 rfl (fun w' hw => (b3.chg hw id).cell (o := 3) rfl) (Wq.nil ?_))
              refine Wt.quiet rfl (Wq.idxArrP rfl rfl (by omega) (by omega) (Wq.nil ?_))
              refine Wt.quiet rfl (Wq.load1 rfl (fun w' hw => (b3.chg hw id).cell (o := 5) rfl) (Wq.nil ?_))
              refine Wt.quiet rfl (Wq.idxArrP rfl rfl (by omega) (by omega) (Wq.nil ?_))
              refine Wt.quiet rfl (Wq.load1 rfl (fun w' hw => (b3.chg hw id).cell (o := 7) rfl) (Wq.nil ?_))
              refine Wt.chain rfl (Wl.buildF (ps := [(0, .tmp 156), (1, .tmp 158), (2, .tmp 160), (3, .tmp 162)]) (parts := [(0, vi s.length), (1, vi h3), (2, vi h5), (3, vi h7)]) rfl rfl (by simp [Value.cells]) ?_)
              refine Wl.nil ⟨rfl, n15, ?_⟩
              (repeat' (refine Wt.quiet rfl (Wq.assignE (by conv => { lhs; whnf }) (Wq.nil ?_))))
              refine Wt.last rfl (Wl.storeB (u := .agg #[vi s.length, vi h3, vi h5, vi h7]) (new := [vi s.length, vi h3, vi h5, vi h7]) (b1.chg n15 id) rfl rfl rfl rfl (show (4 : Nat) ≤ 4 from Nat.le_refl 4) (by simp [Value.oneCell']) fun w16 b16 c16 s16 => ?_)
              replace b16 : Bk w16 lo tHead [vi s.length, vi h3, vi h5, vi h7] := b16
              have A15 := A14.new n15
              (repeat' (first | refine Wl.nil ?_ | refine Qseq.normal ?_ | refine Wc.ret ?_))
              refine Qfn.retR (v := .tuple #[.slice xa nds.length xc, .agg #[vi s.length, vi h3, vi h5, vi h7]]) ?_ ?_
              · refine results2 (a := .tmp 2) (b := .cell 3 tHead) rfl ?_ ?_
                · exact rvOf_tmp rfl
                · exact rvOf_agg rfl rfl b16 rfl
              · refine ⟨nds, _, lab', _, pvs', rfl, rfl, ?_, Chg.trans (New.trans n14 n15) c16 fun j hj e => by omega⟩
                have tr := A15.tr.chg c16 fun k _ e => by
                  cases hq : lab' k with
                  | none => rfl
                  | some q => have := (A15.tr.low k q hq).1; omega
                exact ⟨tr.len, fun k q e => ⟨by have := (tr.low k q e).1; omega, (tr.low k q e).2⟩, tr.arr, tr.pr⟩
end Go.Proofs.YtlkhajheecglgaaDoor

namespace Go.Proofs.YtlkhajheecglgaaDoor
open Go Wk
open Go.RowKit (Below)
attribute [local irreducible] Go.Calls

theorem catch_idle (b2 b3 : Nat) (w : World) :
    CallsD Tryd.prog 24 #[ptrB b2, ptrB b3] .returning w fun e u' w' => e = .returned (.tuple #[]) ∧ u' = .returning ∧ w' = w := by
  refine callsD_of_wpS Tryd.func24 rfl fun c₀ cs hu => ?_
  apply wpS_seq
  apply wpS_region
  simp [wpOpsS, go_sem, recoverD, hu, Tryd.ntmps24, Exit.thenS]
  refine wpS_cond (t := false) (by simp [Act.eval, Array.replicate]) ?_
  simp only [Bool.false_eq_true, if_false]
  refine wpS_of_wp (wp_skip ?_)
  cases c₀
  simp_all [bodyPostS, results, Tryd.results24]
theorem wp_of_Wc {P : Program} {n : Nat} {Q0 : Po} {Q : Exit → Act → World → Prop} {F : Fr} {w : World} {c : Code} {a : Act} (ha : a = act n [] F) (h : Wc P n [] Q0 c F w) (k : ∀ e F' w', Q0 e F' w' → Q e (act n [] F') w') : c.wp P Q a w := by
  subst ha
  unfold Wc at h
  refine wp_mono h ?_
  rintro e a' w' ⟨F', rfl, hq⟩
  exact k e F' w' hq
abbrev tNds : TypeId := 22
theorem catch_panicking (b2 b3 : Nat) (T : TypeId) (pv x : Value) (y : Value) (older : List PanicEntry) (w : World) (h2 : Bk w b2 tNds [x]) (h3 : Bk w b3 tErr [y]) (hne : b2 ≠ b3) :
    CallsD Tryd.prog 24 #[ptrB b2, ptrB b3] (.panicking ({ v := .iface T pv, recovered := false } :: older)) w fun e u' w' =>
      e = .returned (.tuple #[]) ∧ u' = .panicking ({ v := .iface T pv, recovered := true } :: older) ∧ Bk w' b2 tNds [.slice none 0 0] ∧ Bk w' b3 tErr [vi 4] ∧ Chg (fun k => k = b2 ∨ k = b3) w w' := by
  refine callsD_of_wpS Tryd.func24 rfl fun c₀ cs hu => ?_
  apply wpS_seq
  apply wpS_region
  simp [wpOpsS, go_sem, recoverD, hu, Tryd.ntmps24, Exit.thenS]
  refine wpS_cond (t := true) (by simp [Act.eval, Array.replicate]) ?_
  simp only [if_true]
  refine wpS_of_wp ?_
  refine wp_of_Wc (n := 4) (F := ofArgs [ptrB b2, ptrB b3, .iface T pv, .bool true]) (Q0 := fun e F w' => e = .normal ∧ Bk w' b2 tNds [.slice none 0 0] ∧ Bk w' b3 tErr [vi 4] ∧ Chg (fun k => k = b2 ∨ k = b3) w w') rfl ?_ ?_
  · (repeat' (refine Wc.region ?_))
    refine Wl.store1 (u := .slice none 0 0) h2 rfl (show (0 : Nat) < 1 by omega) rfl rfl fun w1 b1 c1 => ?_
    replace b1 : Bk w1 b2 tNds [.slice none 0 0] := b1
    refine Wl.store1 (u := vi 4) (h3.chg c1 (by omega)) rfl (show (0 : Nat) < 1 by omega) rfl rfl fun w2 b2' c2 => ?_
    replace b2' : Bk w2 b3 tErr [vi 4] := b2'
    (repeat' (refine Wl.nil ?_))
    exact ⟨rfl, b1.chg c2 (by omega), b2', (c1.mono fun k _ e => .inl e).trans c2 fun k _ e => .inr e⟩
  · rintro e F' w' ⟨rfl, h1, h4, h5⟩
    exact ⟨rfl, _, rfl, .tuple #[], results_none Tryd.results24 _ _ _, rfl, rfl, h1, h4, h5⟩
set_option maxRecDepth 4000 in
theorem Decode_spec {w : World} {s : List UInt8} (hs : s.length ≤ 9223372036854775806) :
    Calls Tryd.prog 8 #[vs s] w (Ret fun v w' => ∃ nv lab pvs, v = .tuple #[nv, vi (decM s).2] ∧ TrOwn w.heap.size lab w' nv (decM s).1 pvs ∧ New w w') := by
  refine calls_of_defer (n := 11) (l := [vs s]) (t := 4) (g := 24) (cap := [.tmp 2, .tmp 3]) Tryd.func8 rfl rfl rfl rfl ?_
  (repeat' (refine Wc.region ?_))
  refine Wl.alloc fun w1 b1 n1 s1 => ?_
  replace b1 : Bk w1 w.heap.size tNds [.slice none 0 0] := b1
  refine Wl.alloc fun w2 b2 n2 s2 => ?_
  replace b2 : Bk w2 w1.heap.size tErr [vi 0] := b2
  have b1 := b1.chg n2 id
  have n12 := New.trans n1 n2
  rw [s1] at b2 ⊢
  generalize hlo : w.heap.size = lo at *
  refine Wl.nil ⟨rfl, ?_⟩
  (repeat' (first | refine Wl.moveE (by conv => { lhs; whnf }) ?_ | refine Wc.seq ?_ | refine Wc.region ?_))
  refine Wl.callX (read_spec hs) rfl ?_ ?_
  · rintro c w3 ⟨hn, rfl, n3⟩
    (repeat' (refine Qseq.panic ?_))
    have b1' := b1.chg n3 id
    have b2' := b2.chg n3 id
    have hd : decM s = ([], 4) := by unfold decM; rw [hn]
    rw [hd]
    unfold Qd
    refine leaves_cons (f := 24) (args := #[ptrB lo, ptrB (lo + 1)]) (by simp) (run_callFunc inferInstance _) ?_
    refine (catch_panicking lo (lo + 1) tErr (vi 4) (.slice none 0 0) (vi 0) [] w3 b1' b2' (by omega)).mono ?_
    rintro e u' w4 ⟨rfl, rfl, b1, b2, c4⟩
    refine ⟨.tuple #[.slice none 0 0, vi 4], results2 (a := .cell 2 tNds) (b := .cell 3 tErr) rfl (rvOf_one rfl rfl b1) (rvOf_one rfl rfl b2), _, rfl, _, _, _, rfl, TrOwn.nil, ?_⟩
    exact Chg.trans (New.trans n12 n3) c4 fun k hk e => by omega
  rintro _ w3 ⟨l, hd, lab, nv, pvs, hr, rfl, tr, n3⟩
  have hdm : decM s = (l, 0) := by unfold decM; rw [hr]
  rw [hdm]
  have b1' := b1.chg n3 id
  have b2' := b2.chg n3 id
  have low : ∀ k, lab k ≠ none → lo + 2 ≤ k := fun k e => by
    cases hq : lab k with
    | none => exact absurd hq e
    | some q => have := (tr.low k q hq).1; omega
  have hone : nv.oneCell' = true := by obtain ⟨_, _, rfl, _⟩ := tr.rd.form; rfl
  (repeat' (first | refine Wl.moveE (by conv => { lhs; whnf }) ?_ | refine Wl.extract rfl rfl ?_))
  refine Wl.store1 (u := nv) b1' rfl (show (0 : Nat) < 1 by omega) rfl hone fun w4 b4 c4 => ?_
  replace b4 : Bk w4 lo tNds [nv] := b4
  (repeat' (first | refine Wl.nil ?_ | refine Qseq.normal ?_ | refine Wc.seq ?_ | refine Wc.region ?_))
  refine Wl.load1 rfl (b4.cell (o := 0) rfl) ?_
  refine Wl.store1 (u := nv) b4 rfl (show (0 : Nat) < 1 by omega) rfl hone fun w5 b5 c5 => ?_
  replace b5 : Bk w5 lo tNds [nv] := b5
  refine Wl.store1 (u := vi 0) ((b2'.chg c4 (by omega)).chg c5 (by omega)) rfl (show (0 : Nat) < 1 by omega) rfl rfl fun w6 b6 c6 => ?_
  replace b6 : Bk w6 (lo + 1) tErr [vi 0] := b6
  have b7 := b5.chg c6 (by omega)
  have n6 : New w w6 := ((((Chg.trans (New.trans n12 n3) c4 fun k hk e => by omega) : New w w4) : Chg _ w w4).trans c5 fun k hk e => by omega).trans c6 fun k hk e => by omega
  have tr6 := ((tr.chg c4 fun k _ e => Classical.byContradiction fun h => by have := low k h; omega).chg c5 fun k _ e => Classical.byContradiction fun h => by have := low k h; omega).chg c6 fun k _ e => Classical.byContradiction fun h => by have := low k h; omega
  (repeat' (first | refine Wl.nil ?_ | refine Qseq.normal ?_ | refine Wc.ret ?_))
  unfold Qd
  refine leaves_cons (f := 24) (args := #[ptrB lo, ptrB (lo + 1)]) (by simp) (run_callFunc inferInstance _) ?_
  refine (catch_idle lo (lo + 1) w6).mono ?_
  rintro e u' w7 ⟨rfl, rfl, rfl⟩
  refine ⟨.tuple #[nv, vi 0], results2 (a := .cell 2 tNds) (b := .cell 3 tErr) rfl (rvOf_one rfl rfl b7) (rvOf_one rfl rfl b6), _, rfl, nv, lab, pvs, rfl, ⟨tr6.len, fun k q e => ⟨by have := low k (by rw [e]; simp); omega, (tr6.low k q e).2⟩, tr6.arr, tr6.pr⟩, n6⟩
def lookM (s : List UInt8) : List Nat × Int := match readM s with | some (_, hd) => (hd, 0) | none => ([0, 0, 0, 0], 4)
theorem readM_four {s : List UInt8} {l : List Nd} {hd : List Nat} (h : readM s = some (l, hd)) : ∃ d0 d1 d2 d3, hd = [d0, d1, d2, d3] := by
  rw [(readM_sound h).2.2]; exact ⟨_, _, _, _, rfl⟩
theorem catch_idleL (b2 b3 : Nat) (w : World) :
    CallsD Tryd.prog 36 #[ptrB b2, ptrB b3] .returning w fun e u' w' => e = .returned (.tuple #[]) ∧ u' = .returning ∧ w' = w := by
  refine callsD_of_wpS Tryd.func36 rfl fun c₀ cs hu => ?_
  apply wpS_seq
  apply wpS_region
  simp [wpOpsS, go_sem, recoverD, hu, Tryd.ntmps36, Exit.thenS]
  refine wpS_cond (t := false) (by simp [Act.eval, Array.replicate]) ?_
  simp only [Bool.false_eq_true, if_false]
  refine wpS_of_wp (wp_skip ?_)
  cases c₀
  simp_all [bodyPostS, results, Tryd.results36]
theorem catch_panickingL (b2 b3 : Nat) (T : TypeId) (pv : Value) (y : Value) (x : List Value) (older : List PanicEntry) (w : World) (h2 : Bk w b2 tHead x) (h3 : Bk w b3 tErr [y]) (hne : b2 ≠ b3) (hx : x.length = 4) :
    CallsD Tryd.prog 36 #[ptrB b2, ptrB b3] (.panicking ({ v := .iface T pv, recovered := false } :: older)) w fun e u' w' =>
      e = .returned (.tuple #[]) ∧ u' = .panicking ({ v := .iface T pv, recovered := true } :: older) ∧ Bk w' b2 tHead z4 ∧ Bk w' b3 tErr [vi 4] ∧ Chg (fun k => k = b2 ∨ k = b3) w w' := by
  refine callsD_of_wpS Tryd.func36 rfl fun c₀ cs hu => ?_
  apply wpS_seq
  apply wpS_region
  simp [wpOpsS, go_sem, recoverD, hu, Tryd.ntmps36, Exit.thenS]
  refine wpS_cond (t := true) (by simp [Act.eval, Array.replicate]) ?_
  simp only [if_true]
  refine wpS_of_wp ?_
  refine wp_of_Wc (n := 5) (F := ofArgs [ptrB b2, ptrB b3, .iface T pv, .bool true, undef]) (Q0 := fun e F w' => e = .normal ∧ Bk w' b2 tHead z4 ∧ Bk w' b3 tErr [vi 4] ∧ Chg (fun k => k = b2 ∨ k = b3) w w') rfl ?_ ?_
  · (repeat' (refine Wc.region ?_))
    refine Wl.buildF (ps := []) (parts := []) rfl rfl (by simp) ?_
    obtain ⟨x0, x1, x2, x3, rfl⟩ : ∃ x0 x1 x2 x3, x = [x0, x1, x2, x3] := by
      match x, hx with
      | [x0, x1, x2, x3], _ => exact ⟨x0, x1, x2, x3, rfl⟩
    refine Wl.storeB (u := .agg z4.toArray) (new := z4) h2 rfl rfl rfl rfl (show (4 : Nat) ≤ 4 from Nat.le_refl 4) (by simp [Value.oneCell']) fun w1 b1 c1 _ => ?_
    replace b1 : Bk w1 b2 tHead z4 := b1
    refine Wl.store1 (u := vi 4) (h3.chg c1 (by omega)) rfl (show (0 : Nat) < 1 by omega) rfl rfl fun w2 b2' c2 => ?_
    replace b2' : Bk w2 b3 tErr [vi 4] := b2'
    (repeat' (refine Wl.nil ?_))
    exact ⟨rfl, b1.chg c2 (by omega), b2', (c1.mono fun k _ e => .inl e).trans c2 fun k _ e => .inr e⟩
  · rintro e F' w' ⟨rfl, h1, h4, h5⟩
    exact ⟨rfl, _, rfl, .tuple #[], results_none Tryd.results36 _ _ _, rfl, rfl, h1, h4, h5⟩
set_option maxRecDepth 4000 in
theorem Look_spec {w : World} {s : List UInt8} (hs : s.length ≤ 9223372036854775806) :
    Calls Tryd.prog 20 #[vs s] w (Ret fun v w' => v = .tuple #[.agg ((lookM s).1.map fun k : Nat => vi k).toArray, vi (lookM s).2] ∧ New w w') := by
  refine calls_of_defer (n := 11) (l := [vs s]) (t := 4) (g := 36) (cap := [.tmp 2, .tmp 3]) Tryd.func20 rfl rfl rfl rfl ?_
  (repeat' (refine Wc.region ?_))
  refine Wl.alloc fun w1 b1 n1 s1 => ?_
  replace b1 : Bk w1 w.heap.size tHead z4 := b1
  refine Wl.alloc fun w2 b2 n2 s2 => ?_
  replace b2 : Bk w2 w1.heap.size tErr [vi 0] := b2
  have b1 := b1.chg n2 id
  have n12 := New.trans n1 n2
  rw [s1] at b2 ⊢
  generalize hlo : w.heap.size = lo at *
  refine Wl.nil ⟨rfl, ?_⟩
  (repeat' (first | refine Wl.moveE (by conv => { lhs; whnf }) ?_ | refine Wc.seq ?_ | refine Wc.region ?_))
  refine Wl.callX (read_spec hs) rfl ?_ ?_
  · rintro c w3 ⟨hn, rfl, n3⟩
    (repeat' (refine Qseq.panic ?_))
    have b1' := b1.chg n3 id
    have b2' := b2.chg n3 id
    have hd : lookM s = ([0, 0, 0, 0], 4) := by unfold lookM; rw [hn]
    rw [hd]
    unfold Qd
    refine leaves_cons (f := 36) (args := #[ptrB lo, ptrB (lo + 1)]) (by simp) (run_callFunc inferInstance _) ?_
    refine (catch_panickingL lo (lo + 1) tErr (vi 4) (vi 0) z4 [] w3 b1' b2' (by omega) rfl).mono ?_
    rintro e u' w4 ⟨rfl, rfl, b1, b2, c4⟩
    refine ⟨.tuple #[.agg z4.toArray, vi 4], results2 (a := .cell 2 tHead) (b := .cell 3 tErr) rfl (rvOf_agg rfl rfl b1 rfl) (rvOf_one rfl rfl b2), _, rfl, rfl, ?_⟩
    exact Chg.trans (New.trans n12 n3) c4 fun k hk e => by omega
  rintro _ w3 ⟨l, hd, lab, nv, pvs, hr, rfl, tr, n3⟩
  have hdm : lookM s = (hd, 0) := by unfold lookM; rw [hr]
  rw [hdm]
  have b1' := b1.chg n3 id
  have b2' := b2.chg n3 id
  obtain ⟨d0, d1, d2, d3, rfl⟩ : ∃ d0 d1 d2 d3, hd = [d0, d1, d2, d3] := readM_four hr
  (repeat' (first | refine Wl.moveE (by conv => { lhs; whnf }) ?_ | refine Wl.extract rfl rfl ?_))
  refine Wl.storeB (u := .agg #[vi d0, vi d1, vi d2, vi d3]) (new := [vi d0, vi d1, vi d2, vi d3]) b1' rfl rfl rfl rfl (show (4 : Nat) ≤ 4 from Nat.le_refl 4) (by simp [Value.oneCell']) fun w4 b4 c4 _ => ?_
  replace b4 : Bk w4 lo tHead [vi d0, vi d1, vi d2, vi d3] := b4
  (repeat' (first | refine Wl.nil ?_ | refine Qseq.normal ?_ | refine Wc.seq ?_ | refine Wc.region ?_))
  refine Wl.loadB b4 rfl rfl ?_
  refine Wl.storeB (u := .agg #[vi d0, vi d1, vi d2, vi d3]) (new := [vi d0, vi d1, vi d2, vi d3]) b4 rfl rfl rfl rfl (show (4 : Nat) ≤ 4 from Nat.le_refl 4) (by simp [Value.oneCell']) fun w5 b5 c5 _ => ?_
  replace b5 : Bk w5 lo tHead [vi d0, vi d1, vi d2, vi d3] := b5
  refine Wl.store1 (u := vi 0) ((b2'.chg c4 (by omega)).chg c5 (by omega)) rfl (show (0 : Nat) < 1 by omega) rfl rfl fun w6 b6 c6 => ?_
  replace b6 : Bk w6 (lo + 1) tErr [vi 0] := b6
  have b7 := b5.chg c6 (by omega)
  have n6 : New w w6 := Chg.trans (Chg.trans (Chg.trans (New.trans n12 n3) c4 fun k hk e => by omega) c5 fun k hk e => by omega) c6 fun k hk e => by omega
  (repeat' (first | refine Wl.nil ?_ | refine Qseq.normal ?_ | refine Wc.ret ?_))
  unfold Qd
  refine leaves_cons (f := 36) (args := #[ptrB lo, ptrB (lo + 1)]) (by simp) (run_callFunc inferInstance _) ?_
  refine (catch_idleL lo (lo + 1) w6).mono ?_
  rintro e u' w7 ⟨rfl, rfl, rfl⟩
  refine ⟨.tuple #[.agg #[vi d0, vi d1, vi d2, vi d3], vi 0], results2 (a := .cell 2 tHead) (b := .cell 3 tErr) rfl (rvOf_agg rfl rfl b7 rfl) (rvOf_one rfl rfl b6), _, rfl, rfl, n6⟩
end Go.Proofs.YtlkhajheecglgaaDoor

namespace Go.Proofs.YtlkhajheecglgaaDoor
open Go Wk
open Go.RowKit (Below)
attribute [local irreducible] Go.Calls

theorem keyPr (p : Pr) (h1 : p.1.length ≤ maxLen) (h2 : p.2.length ≤ maxLen) : ∃ q, keyOf Tryd.prog 41 (.agg (pC p).toArray) = some q := by
  obtain ⟨a, b⟩ := p
  have g1 : Tryd.prog.keyType 41 = true := by kernel_rfl
  have g2 : (Value.agg (pC (a, b)).toArray).formed Tryd.prog 41 = true := by kernel_rfl
  have hc : Tryd.prog.cellsOf 41 = 2 := by kernel_rfl
  have hst : Tryd.prog.cellsOf 9 = 1 := by kernel_rfl
  have l1 : (⟨a.toArray⟩ : ByteArray).size ≤ maxLen := by simpa only [ByteArray.size, List.size_toArray] using h1
  have l2 : (⟨b.toArray⟩ : ByteArray).size ≤ maxLen := by simpa only [ByteArray.size, List.size_toArray] using h2
  obtain ⟨D, hD⟩ : ∃ D, Tryd.prog.types.size = D + 1 := ⟨_, show Tryd.prog.types.size = (Tryd.prog.types.size - 1) + 1 by kernel_rfl⟩
  have h3 : ∃ L, Tryd.prog.keyLits (Tryd.prog.types.size + 1) 41 [vs a, vs b] = some L := by
    rw [hD]
    refine ⟨[.string a, .string b], ?_⟩
    simp [Program.keyLits, Tryd.underlying41, Tryd.underlying9, hc, hst, l1, l2]
  obtain ⟨L, h3⟩ := h3
  unfold keyOf
  rw [Tryd.underlying41]
  simp only [g1, g2, Bool.and_self, if_true]
  exact ⟨_, by rw [show (Value.agg (pC (a, b)).toArray).cells.toList = [vs a, vs b] from rfl, h3]; rfl⟩
theorem run_eql_pr {w : World} (p : Pr) (h1 : p.1.length ≤ maxLen) (h2 : p.2.length ≤ maxLen) : (binOp .eql 41 (.agg (pC p).toArray) (.agg (pC p).toArray)).run Tryd.prog w = .ok (.bool true) w := by
  obtain ⟨q, hq⟩ := keyPr p h1 h2
  obtain ⟨r, hr, hiff⟩ := run_equal_deep (P := Tryd.prog) w (m := 2) (by decide) (k := 41) (by kernel_rfl) (by rw [Tryd.underlying41]) hq hq
  obtain rfl : r = true := hiff.2 rfl
  have h := run_eql_struct (P := Tryd.prog) (w := w) 41 (pC p).toArray (pC p).toArray
  rw [show (Op.equalIn 10000 41 (.agg (pC p).toArray) (.agg (pC p).toArray)).run Tryd.prog w = .ok true w from hr] at h
  exact h
theorem run_neq_pr {w : World} (p : Pr) (h1 : p.1.length ≤ maxLen) (h2 : p.2.length ≤ maxLen) : (binOp .neq 41 (.agg (pC p).toArray) (.agg (pC p).toArray)).run Tryd.prog w = .ok (.bool false) w := by
  obtain ⟨q, hq⟩ := keyPr p h1 h2
  obtain ⟨r, hr, hiff⟩ := run_equal_deep (P := Tryd.prog) w (m := 2) (by decide) (k := 41) (by kernel_rfl) (by rw [Tryd.underlying41]) hq hq
  obtain rfl : r = true := hiff.2 rfl
  have h := run_neq_struct (P := Tryd.prog) (w := w) 41 (pC p).toArray (pC p).toArray
  rw [show (Op.equalIn 10000 41 (.agg (pC p).toArray) (.agg (pC p).toArray)).run Tryd.prog w = .ok true w from hr] at h
  exact h
section
variable {n : Nat} {ds : List Deferred} {Q : Po} {C : World → Prop} {K : Fr → Prop} {F : Fr} {w : World} {ops rest : List Oper} {d : Nat} {ty t' : TypeId} {pos : String} {aft : Array Edge}
theorem Wl.eqlPrSame {x y : Operand} {p : Pr} (h1 : p.1.length ≤ maxLen) (h2 : p.2.length ≤ maxLen) (hx : ev n F x = .agg (pC p).toArray) (hy : ev n F y = .agg (pC p).toArray) (c : Wl Tryd.prog n ds Q ops rest (upd F d (.bool true)) w) :
    Wl Tryd.prog n ds Q ops (⟨some d, .binOp .eql 41 x y t', ty, pos, aft, none⟩ :: rest) F w :=
  Wl.val (by
    have hg := run_eqGuard_agg (P := Tryd.prog) (w := w) .eql 41 x y (pC p).toArray (pC p).toArray (by kernel_rfl)
    simp only [execOp, hx, hy, Sem.run_bind, hg, Result.andThen_ok, run_eql_pr p h1 h2, Sem.run_pure]) c
theorem Wq.neqPrSame {x y : Operand} {p : Pr} (h1 : p.1.length ≤ maxLen) (h2 : p.2.length ≤ maxLen) (hx : ev n F x = .agg (pC p).toArray) (hy : ev n F y = .agg (pC p).toArray) (c : Wq Tryd.prog n ds C K ops rest (upd F d (.bool false))) :
    Wq Tryd.prog n ds C K ops (⟨some d, .binOp .neq 41 x y t', ty, pos, aft, none⟩ :: rest) F :=
  Wq.val (fun w hw => by
    have hg := run_eqGuard_agg (P := Tryd.prog) (w := w) .neq 41 x y (pC p).toArray (pC p).toArray (by kernel_rfl)
    simp only [execOp, hx, hy, Sem.run_bind, hg, Result.andThen_ok, run_neq_pr p h1 h2, Sem.run_pure]) c
end
/-- The tree of the laws' awake. -/
abbrev pr0 : Pr := ([97], [1])
abbrev tr0 : List Nd := [⟨-1, [], [pr0]⟩]
theorem tr0_ok : treeOk tr0 = true := by decide +kernel
theorem tr0_len : (encL tr0).length = 66 := by
  have h : structL tr0 = stT (namesN [] tr0) (.mk [] [pr0] []) ++ cell4 9 := structL_T (τ := .mk [] [pr0] []) tr0_ok
  rw [encL_length, strings_size, h]
  rfl
theorem enc_pre (l : List Nd) : ∃ X, encL l = cell4 0xD00DFEED ++ X := ⟨_, by unfold encL headB; rw [List.append_assoc]⟩
theorem magic_cell : cell4 0xD00DFEED = [208, 13, 254, 237] := by
  unfold cell4
  rw [show (0xD00DFEED : Nat) / 16777216 = 208 by decide, show (0xD00DFEED : Nat) / 65536 = 53261 by decide, show (0xD00DFEED : Nat) / 256 = 13635070 by decide]
  rw [show UInt8.ofNat 53261 = 13 by decide, show UInt8.ofNat 13635070 = 254 by decide, show UInt8.ofNat 0xD00DFEED = 237 by decide]
  rfl
theorem enc_four (l : List Nd) : (encL l).take 4 = [208, 13, 254, 237] := by
  obtain ⟨X, h⟩ := enc_pre l
  rw [h, ← magic_cell]
  exact List.take_left' (cell4_length _)
theorem tr0_pre : (encL tr0).take 4 = [208, 13, 254, 237] := enc_four tr0
theorem decM_some {s : List UInt8} {l : List Nd} {hd : List Nat} (h : readM s = some (l, hd)) : decM s = (l, 0) := by unfold decM; rw [h]
theorem dec_full {l : List Nd} (h : treeOk l = true) : decM (encL l) = (l, 0) := decM_some (readM_full h)
set_option maxRecDepth 4000 in
set_option maxHeartbeats 1000000 in
theorem awake_spec {w : World} : Calls Tryd.prog 9 #[] w (Ret fun r w' => r = .bool true ∧ New w w') := by
  refine calls_of_Wc Tryd.func9 rfl Tryd.ntmps9 rfl ?_
  (repeat' (first | refine Wl.assignE (by conv => { lhs; whnf }) ?_ | refine Wl.nil ?_ | refine Qseq.normal ?_ | refine Wc.seq ?_ | refine Wc.region ?_))
  refine Wl.buildF (ps := [(0, .const (vs [97])), (1, .const (vs [1]))]) (parts := [(0, vs [97]), (1, vs [1])]) rfl rfl (by simp [Value.cells]) ?_
  refine Wl.buildSlice1 (R := rPr) (y := pr0) (Pe := No) goodPr rfl rfl rfl rfl (by omega) (by omega) fun v1 w1 o1 n1 s1 hob1 => ?_
  obtain ⟨a1, c1, rfl, _, _⟩ := o1.form
  refine Wl.buildF (ps := [(0, .const (vi (-1))), (2, .tmp 7)]) (parts := [(0, vi (-1)), (2, .slice a1 [pr0].length c1)]) rfl rfl (by simp [Value.cells]) ?_
  refine Wl.buildSlice1 (R := rNd) (y := ⟨-1, [], [pr0]⟩) (Pe := fun b => b < w1.heap.size) goodNd rfl rfl rfl ⟨_, rfl, (o1.rd (mono_flat pC)).mono (mono_flat pC) fun b hb _ => ⟨hb, by omega⟩⟩ (by omega) (by omega) fun v2 w2 o2 n2 s2 hob2 => ?_
  refine Wl.call (Encode_spec (o2.rd monoNd) (fun x hx p hp => by simp at hx; subst hx; simp at hp; subst hp; simp [maxLen])) rfl ?_
  rintro _ w3 ⟨rfl, n3⟩
  rw [if_pos tr0_ok, if_pos tr0_ok]
  (repeat' (first | refine Wl.moveE (by conv => { lhs; whnf }) ?_ | refine Wl.assignE (by conv => { lhs; whnf }) ?_ | refine Wl.nil ?_ | refine Wl.extract rfl rfl ?_ | refine Qseq.normal ?_ | refine Wc.seq ?_ | refine Wc.region ?_))
  refine Wl.call (Decode_spec (s := encL tr0) (by rw [tr0_len]; omega)) rfl ?_
  rintro _ w4 ⟨nv, lab, pvs, rfl, tr, n4⟩
  rw [dec_full tr0_ok] at tr ⊢
  obtain ⟨na, nc, rfl, _, _⟩ := tr.rd.form
  have hl := tr0_len
  have hp := tr0_pre
  have hd := tr.rd
  generalize encL tr0 = s0 at *
  (repeat' (first | refine Wl.moveE (by conv => { lhs; whnf }) ?_ | refine Wl.assignE (by conv => { lhs; whnf }) ?_ | refine Wl.nil ?_ | refine Wl.extract rfl rfl ?_ | refine Wl.guardY rfl rfl ?_ | refine Wl.pickTE rfl (by conv => { lhs; whnf }) ?_ | refine Wl.lenStr rfl ?_ | refine Qseq.normal ?_ | refine Wc.seq ?_ | refine Wc.region ?_ | (refine Wl.eql rfl rfl (fun _ => ?_) (fun _ => ?_) <;> (first | (exfalso; omega) | skip))))
  refine Wl.strTo rfl rfl (by omega) (by omega) ?_
  rw [show (4 : Int).toNat = 4 from rfl, hp]
  (try refine Wl.guardY rfl rfl ?_)
  refine Wl.seqlSame (a := [208, 13, 254, 237]) rfl rfl ?_
  (repeat' (first | refine Wl.moveE (by conv => { lhs; whnf }) ?_ | refine Wl.guardY rfl rfl ?_ | refine Wl.pickTE rfl (by conv => { lhs; whnf }) ?_ | refine Wl.lenS rfl ?_ | (refine Wl.eql rfl rfl (fun _ => ?_) (fun _ => ?_) <;> (first | (exfalso; contradiction) | skip))))
  refine Wl.idxAddr hd rfl rfl (by omega) (y := ⟨-1, [], [pr0]⟩) rfl fun b o cs hcl hR hat => ?_
  obtain ⟨pv, rfl, hpr⟩ := hR
  obtain ⟨pa, pc, rfl, _, _⟩ := hpr.form
  (repeat' (first | refine Wl.guardY rfl rfl ?_ | refine Wl.fieldAddr rfl rfl ?_))
  refine Wl.load1 rfl (hat.get 2 rfl) ?_
  (repeat' (first | refine Wl.moveE (by conv => { lhs; whnf }) ?_ | refine Wl.guardY rfl rfl ?_ | refine Wl.pickTE rfl (by conv => { lhs; whnf }) ?_ | refine Wl.lenS rfl ?_ | (refine Wl.eql rfl rfl (fun _ => ?_) (fun _ => ?_) <;> (first | (exfalso; contradiction) | skip))))
  refine Wl.idxAddr hd rfl rfl (by omega) (y := ⟨-1, [], [pr0]⟩) rfl fun b o cs hcl hR hat => ?_
  obtain ⟨pv, rfl, hpr⟩ := hR
  obtain ⟨pa, pc, rfl, _, _⟩ := hpr.form
  (repeat' (first | refine Wl.guardY rfl rfl ?_ | refine Wl.fieldAddr rfl rfl ?_))
  refine Wl.load1 rfl (hat.get 2 rfl) ?_
  (try refine Wl.guardY rfl rfl ?_)
  refine Wl.idxAddr hpr rfl rfl (by omega) (y := pr0) rfl fun b o cs hcl hR hat => ?_
  obtain rfl : cs = pC pr0 := hR
  (try refine Wl.guardY rfl rfl ?_)
  refine Wl.loadAt hat rfl rfl ?_
  (try refine Wl.guardY rfl rfl ?_)
  refine Wl.buildF (ps := [(0, .const (vs [97])), (1, .const (vs [1]))]) (parts := [(0, vs [97]), (1, vs [1])]) rfl rfl (by simp [Value.cells]) ?_
  (try refine Wl.guardY rfl rfl ?_)
  refine Wl.eqlPrSame (p := pr0) (by simp [maxLen]) (by simp [maxLen]) rfl rfl ?_
  (repeat' (first | refine Wl.assignE (by conv => { lhs; whnf }) ?_ | refine Wl.nil ?_ | refine Wl.pickTE rfl (by conv => { lhs; whnf }) ?_ | refine Qseq.normal ?_ | refine Wc.ret ?_))
  exact Qfn.ret1 rfl rfl ⟨_, rfl, rfl, New.trans (New.trans (New.trans n1 n2) n3) n4⟩
theorem list_ext {α : Type} {a b : List α} (hl : a.length = b.length) (h : a.take a.length = b.take a.length) : a = b := by
  rw [List.take_length, hl, List.take_length] at h; exact h
theorem take_ext {α : Type} {a b : List α} {i : Nat} {x y : α} (h : a.take i = b.take i) (hx : a[i]? = some x) (hy : b[i]? = some y) (e : x = y) : a.take (i + 1) = b.take (i + 1) := by
  rw [take_snoc hx, take_snoc hy, h, e]
theorem ne_at {α : Type} {a b : List α} {i : Nat} {x y : α} (hx : a[i]? = some x) (hy : b[i]? = some y) (e : x ≠ y) : a ≠ b := fun h => by
  rw [h, hy] at hx; cases hx; exact e rfl
set_option maxHeartbeats 4000000 in
set_option maxRecDepth 4000 in
theorem alike_spec {Pc Pd : Nat → Prop} {w : World} {cv dv : Value} {t u : List Nd} (hc : RdS rNd 3 Pc w cv t) (hd : RdS rNd 3 Pd w dv u) :
    Calls Tryd.prog 11 #[cv, dv] w (Ret fun r w' => ∃ q : Bool, r = .bool q ∧ (q = true ↔ t = u) ∧ New w w') := by
  obtain ⟨ca, cc, rfl, hcc1, hcc2⟩ := hc.form
  obtain ⟨da, dc, rfl, hdc1, hdc2⟩ := hd.form
  simp only [maxLen] at hcc2 hdc2
  refine calls_of_Wc Tryd.func11 rfl Tryd.ntmps11 rfl ?_
  (repeat' (first | refine Wl.moveE (by conv => { lhs; whnf }) ?_ | refine Wl.assignE (by conv => { lhs; whnf }) ?_ | refine Wl.nil ?_ | refine Wl.lenS rfl ?_ | refine Qseq.normal ?_ | refine Wc.seq ?_ | refine Wc.region ?_ | refine Wc.block ?_ | refine Wc.skip ?_ | refine Wc.ret ?_ | refine Qseq.ret ?_ | refine Wc.condT rfl ?_ | refine Wc.condF rfl ?_ | refine Wl.neq rfl rfl (fun _ => ?_) (fun _ => ?_)))
  · exact Qfn.ret1 rfl rfl ⟨_, rfl, false, rfl, ⟨fun e => (by cases e), fun e => (by subst e; exact absurd rfl (by assumption))⟩, Chg.refl _ _⟩
  have hlen : t.length = u.length := by omega
  refine Wc.loop (σ := Nat) (fun i => [(0, .slice ca t.length cc), (1, .slice da u.length dc), (5, vi i)]) (fun i w' => i ≤ t.length ∧ t.take i = u.take i ∧ New w w') (fun i => t.length - i) 0 ⟨rfl, rfl, rfl, trivial⟩ ⟨Nat.zero_le _, rfl, Chg.refl _ _⟩ ?_
  rintro i G w1 ⟨hi, htk, n1⟩
  have hc1 := hc.keep stableNd n1.keep
  have hd1 := hd.keep stableNd n1.keep
  simp only [upds]
  (repeat' (first | refine Wl.moveE (by conv => { lhs; whnf }) ?_ | refine Wl.assignE (by conv => { lhs; whnf }) ?_ | refine Wl.nil ?_ | refine Wl.lenS rfl ?_ | refine Qseq.normal ?_ | refine Wc.seq ?_ | refine Wc.region ?_ | refine Wc.block ?_ | refine Wc.skip ?_ | refine Wc.exit ?_ | refine Wc.ret ?_ | refine Qseq.exit ?_ | refine Qblk.hit ?_ | refine Qloop.exit ?_ | refine Wc.condT rfl ?_ | refine Wc.condF rfl ?_ | refine Wl.lss rfl rfl (fun _ => ?_) (fun _ => ?_)))
  · obtain ⟨x, hx⟩ := get_lt t (k := i) (by omega)
    obtain ⟨y, hy⟩ := get_lt u (k := i) (by omega)
    have no : ∀ {w' : World}, x ≠ y → New w w' → Ret (fun r w' => ∃ q : Bool, r = .bool q ∧ (q = true ↔ t = u) ∧ New w w') (.returned (.bool false)) w' := fun he n => ⟨_, rfl, false, rfl, ⟨fun e => (by cases e), fun e => absurd e (ne_at hx hy he)⟩, n⟩
    obtain ⟨xp, xn, xs⟩ := x
    obtain ⟨yp, yn, ys⟩ := y
    refine Wc.regionN rfl (by kernel_rfl) ?_
    (repeat' (refine Wq.moveE (by conv => { lhs; whnf }) ?_))
    refine Wq.idxAddr hc1 (fun w' hw => New.keep hw) rfl rfl (by omega) hx fun b o cs hl hR hat => ?_
    obtain ⟨xv, rfl, hxr⟩ := hR
    obtain ⟨xa, xc, rfl, hxc1, hxc2⟩ := hxr.form
    (repeat' (refine Wq.fieldAddr rfl rfl ?_))
    refine Wq.load1 rfl (fun w' hw => (hat w' hw).get 0 rfl) ?_
    clear hat
    (repeat' (refine Wq.moveE (by conv => { lhs; whnf }) ?_))
    refine Wq.idxAddr hd1 (fun w' hw => New.keep hw) rfl rfl (by omega) hy fun b o cs hl hR hat => ?_
    obtain ⟨yv, rfl, hyr⟩ := hR
    obtain ⟨ya, yc, rfl, hyc1, hyc2⟩ := hyr.form
    (repeat' (refine Wq.fieldAddr rfl rfl ?_))
    refine Wq.load1 rfl (fun w' hw => (hat w' hw).get 0 rfl) ?_
    clear hat
    (repeat' (first | refine Wq.moveE (by conv => { lhs; whnf }) ?_ | refine Wq.nil ?_ | refine Wq.guardY rfl rfl ?_ | refine Wq.guardN rfl rfl ?_ | refine Wq.pickTE rfl (by conv => { lhs; whnf }) ?_ | refine Wq.neq rfl rfl (fun _ => ?_) (fun _ => ?_)))
    · intro w2 n2
      (repeat' (first | refine Wl.assignE (by conv => { lhs; whnf }) ?_ | refine Wl.nil ?_ | refine Qseq.normal ?_ | refine Wc.seq ?_ | refine Wc.region ?_ | refine Wc.ret ?_ | refine Qseq.ret ?_ | refine Qblk.ret ?_ | refine Qloop.ret ?_ | refine Wc.condT rfl ?_))
      exact Qfn.ret1 rfl rfl (no (fun e => by cases e; exact absurd rfl (by assumption)) (New.trans n1 n2))
    refine Wq.idxAddr hc1 (fun w' hw => New.keep hw) rfl rfl (by omega) hx fun b o cs hl hR hat => ?_
    obtain ⟨_, rfl, _⟩ := hR
    (repeat' (first | refine Wq.guardY rfl rfl ?_ | refine Wq.fieldAddr rfl rfl ?_))
    refine Wq.load1 rfl (fun w' hw => (hat w' hw).get 1 rfl) ?_
    clear hat
    (repeat' (first | refine Wq.moveE (by conv => { lhs; whnf }) ?_ | refine Wq.guardY rfl rfl ?_))
    refine Wq.idxAddr hd1 (fun w' hw => New.keep hw) rfl rfl (by omega) hy fun b o cs hl hR hat => ?_
    obtain ⟨_, rfl, _⟩ := hR
    (repeat' (first | refine Wq.guardY rfl rfl ?_ | refine Wq.fieldAddr rfl rfl ?_))
    refine Wq.load1 rfl (fun w' hw => (hat w' hw).get 1 rfl) ?_
    clear hat
    (repeat' (first | refine Wq.moveE (by conv => { lhs; whnf }) ?_ | refine Wq.nil ?_ | refine Wq.guardY rfl rfl ?_ | refine Wq.guardN rfl rfl ?_ | refine Wq.pickTE rfl (by conv => { lhs; whnf }) ?_ | refine Wq.pickFE rfl (by conv => { lhs; whnf }) ?_ | refine Wq.sneq rfl rfl (fun _ => ?_) (fun _ => ?_)))
    · intro w2 n2
      (repeat' (first | refine Wl.assignE (by conv => { lhs; whnf }) ?_ | refine Wl.nil ?_ | refine Qseq.normal ?_ | refine Wc.seq ?_ | refine Wc.region ?_ | refine Wc.ret ?_ | refine Qseq.ret ?_ | refine Qblk.ret ?_ | refine Qloop.ret ?_ | refine Wc.condT rfl ?_))
      exact Qfn.ret1 rfl rfl (no (fun e => by cases e; exact absurd rfl (by assumption)) (New.trans n1 n2))
    refine Wq.idxAddr hc1 (fun w' hw => New.keep hw) rfl rfl (by omega) hx fun b o cs hl hR hat => ?_
    obtain ⟨v1, rfl, h1⟩ := hR
    obtain ⟨_, _, rfl, _, _⟩ := h1.form
    (repeat' (first | refine Wq.guardY rfl rfl ?_ | refine Wq.fieldAddr rfl rfl ?_))
    refine Wq.load1 rfl (fun w' hw => (hat w' hw).get 2 rfl) ?_
    clear hat
    (repeat' (first | refine Wq.moveE (by conv => { lhs; whnf }) ?_ | refine Wq.guardY rfl rfl ?_ | refine Wq.lenS rfl ?_))
    refine Wq.idxAddr hd1 (fun w' hw => New.keep hw) rfl rfl (by omega) hy fun b o cs hl hR hat => ?_
    obtain ⟨v2, rfl, h2⟩ := hR
    obtain ⟨_, _, rfl, _, _⟩ := h2.form
    (repeat' (first | refine Wq.guardY rfl rfl ?_ | refine Wq.fieldAddr rfl rfl ?_))
    refine Wq.load1 rfl (fun w' hw => (hat w' hw).get 2 rfl) ?_
    clear hat
    (repeat' (first | refine Wq.nil ?_ | refine Wq.guardY rfl rfl ?_ | refine Wq.pickFE rfl (by conv => { lhs; whnf }) ?_ | refine Wq.lenS rfl ?_ | refine Wq.neq rfl rfl (fun _ => ?_) (fun _ => ?_)))
    · intro w2 n2
      (repeat' (first | refine Wl.assignE (by conv => { lhs; whnf }) ?_ | refine Wl.nil ?_ | refine Qseq.normal ?_ | refine Wc.seq ?_ | refine Wc.region ?_ | refine Wc.ret ?_ | refine Qseq.ret ?_ | refine Qblk.ret ?_ | refine Qloop.ret ?_ | refine Wc.condT rfl ?_))
      exact Qfn.ret1 rfl rfl (no (fun e => by cases e; exact absurd rfl (by assumption)) (New.trans n1 n2))
    intro w2 n2
    dsimp only at *
    subst yp
    subst yn
    have hpl : xs.length = ys.length := by omega
    have hxm : xs.length ≤ maxLen := Nat.le_trans hxc1 hxc2
    simp only [maxLen] at hxm
    clear h1 h2
    (repeat' (first | refine Wl.assignE (by conv => { lhs; whnf }) ?_ | refine Wl.nil ?_ | refine Qseq.normal ?_ | refine Wc.seq ?_ | refine Wc.region ?_ | refine Wc.block ?_ | refine Wc.skip ?_ | refine Wc.condF rfl ?_))
    clear hxr hyr
    refine Wc.loop (σ := Nat) (fun j => [(0, .slice ca t.length cc), (1, .slice da u.length dc), (5, vi i), (6, vi j)]) (fun j w' => j ≤ xs.length ∧ xs.take j = ys.take j ∧ New w w') (fun j => xs.length - j) 0 ⟨rfl, rfl, rfl, rfl, trivial⟩ ⟨Nat.zero_le _, rfl, New.trans n1 n2⟩ ?_
    rintro j G w3 ⟨hj, hpt, n3⟩
    have hc3 := hc.keep stableNd n3.keep
    have hd3 := hd.keep stableNd n3.keep
    simp only [upds]
    (repeat' (first | refine Wl.moveE (by conv => { lhs; whnf }) ?_ | refine Wc.seq ?_ | refine Wc.region ?_))
    refine Wl.idxAddr hc3 rfl rfl (by omega) hx fun b o cs hl hR hat => ?_
    obtain ⟨xv, rfl, hxr⟩ := hR
    obtain ⟨xa, xc, rfl, hxc1, hxc2⟩ := hxr.form
    (repeat' (refine Wl.fieldAddr rfl rfl ?_))
    refine Wl.load1 rfl (hat.get 2 rfl) ?_
    clear hat
    dsimp only at hxc1 hxc2 ⊢
    (repeat' (first | refine Wl.moveE (by conv => { lhs; whnf }) ?_ | refine Wl.assignE (by conv => { lhs; whnf }) ?_ | refine Wl.nil ?_ | refine Wl.lenS rfl ?_ | refine Qseq.normal ?_ | refine Wc.seq ?_ | refine Wc.region ?_ | refine Wc.block ?_ | refine Wc.skip ?_ | refine Wc.exit ?_ | refine Qseq.exit ?_ | refine Qblk.normal ?_ | refine Qblk.hit ?_ | refine Qloop.exit ?_ | refine Wc.condT rfl ?_ | refine Wc.condF rfl ?_ | refine Wl.add rfl rfl (by omega) (by omega) ?_ | refine Wl.lss rfl rfl (fun _ => ?_) (fun _ => ?_)))
    · obtain ⟨p, hp⟩ := get_lt xs (k := j) (by omega)
      obtain ⟨q, hq⟩ := get_lt ys (k := j) (by omega)
      have no2 : ∀ {w' : World}, p ≠ q → New w w' → Ret (fun r w' => ∃ q : Bool, r = .bool q ∧ (q = true ↔ t = u) ∧ New w w') (.returned (.bool false)) w' := fun he n => no (fun e => by cases e; exact ne_at hp hq he rfl) n
      refine Wc.regionN rfl (by kernel_rfl) ?_
      (repeat' (refine Wq.moveE (by conv => { lhs; whnf }) ?_))
      refine Wq.idxAddr hc3 (fun w' hw => New.keep hw) rfl rfl (by omega) hx fun b o cs hl hR hat => ?_
      obtain ⟨zv, rfl, hzr⟩ := hR
      (repeat' (refine Wq.fieldAddr rfl rfl ?_))
      refine Wq.load1 rfl (fun w' hw => (hat w' hw).get 2 rfl) ?_
      clear hat
      (repeat' (refine Wq.moveE (by conv => { lhs; whnf }) ?_))
      refine Wq.idxAddr hzr (fun w' hw => New.keep hw) rfl rfl (by omega) hp fun b o cs hl hR hat => ?_
      obtain rfl : cs = pC p := hR
      (repeat' (refine Wq.fieldAddr rfl rfl ?_))
      refine Wq.load1 rfl (fun w' hw => (hat w' hw).get 0 rfl) ?_
      clear hat hzr
      (repeat' (refine Wq.moveE (by conv => { lhs; whnf }) ?_))
      refine Wq.idxAddr hd3 (fun w' hw => New.keep hw) rfl rfl (by omega) hy fun b o cs hl hR hat => ?_
      obtain ⟨zv, rfl, hzr⟩ := hR
      (repeat' (refine Wq.fieldAddr rfl rfl ?_))
      refine Wq.load1 rfl (fun w' hw => (hat w' hw).get 2 rfl) ?_
      clear hat
      (repeat' (refine Wq.moveE (by conv => { lhs; whnf }) ?_))
      refine Wq.idxAddr hzr (fun w' hw => New.keep hw) rfl rfl (by omega) hq fun b o cs hl hR hat => ?_
      obtain rfl : cs = pC q := hR
      (repeat' (refine Wq.fieldAddr rfl rfl ?_))
      refine Wq.load1 rfl (fun w' hw => (hat w' hw).get 0 rfl) ?_
      clear hat hzr
      (repeat' (first | refine Wq.moveE (by conv => { lhs; whnf }) ?_ | refine Wq.nil ?_ | refine Wq.guardY rfl rfl ?_ | refine Wq.guardN rfl rfl ?_ | refine Wq.pickTE rfl (by conv => { lhs; whnf }) ?_ | refine Wq.sneq rfl rfl (fun _ => ?_) (fun _ => ?_)))
      · intro w4 n4
        (repeat' (first | refine Wl.assignE (by conv => { lhs; whnf }) ?_ | refine Wl.nil ?_ | refine Qseq.normal ?_ | refine Wc.seq ?_ | refine Wc.region ?_ | refine Wc.ret ?_ | refine Qseq.ret ?_ | refine Qblk.ret ?_ | refine Qloop.ret ?_ | refine Wc.condT rfl ?_))
        exact Qfn.ret1 rfl rfl (no2 (fun e => by cases e; exact absurd rfl (by assumption)) (New.trans n3 n4))
      skip
      refine Wq.idxAddr hc3 (fun w' hw => New.keep hw) rfl rfl (by omega) hx fun b o cs hl hR hat => ?_
      obtain ⟨zv, rfl, hzr⟩ := hR
      (repeat' (first | refine Wq.guardY rfl rfl ?_ | refine Wq.fieldAddr rfl rfl ?_))
      refine Wq.load1 rfl (fun w' hw => (hat w' hw).get 2 rfl) ?_
      clear hat
      (repeat' (first | refine Wq.moveE (by conv => { lhs; whnf }) ?_ | refine Wq.guardY rfl rfl ?_))
      refine Wq.idxAddr hzr (fun w' hw => New.keep hw) rfl rfl (by omega) hp fun b o cs hl hR hat => ?_
      obtain rfl : cs = pC p := hR
      (repeat' (first | refine Wq.guardY rfl rfl ?_ | refine Wq.fieldAddr rfl rfl ?_))
      refine Wq.load1 rfl (fun w' hw => (hat w' hw).get 1 rfl) ?_
      clear hat hzr
      (repeat' (first | refine Wq.moveE (by conv => { lhs; whnf }) ?_ | refine Wq.guardY rfl rfl ?_))
      refine Wq.idxAddr hd3 (fun w' hw => New.keep hw) rfl rfl (by omega) hy fun b o cs hl hR hat => ?_
      obtain ⟨zv, rfl, hzr⟩ := hR
      (repeat' (first | refine Wq.guardY rfl rfl ?_ | refine Wq.fieldAddr rfl rfl ?_))
      refine Wq.load1 rfl (fun w' hw => (hat w' hw).get 2 rfl) ?_
      clear hat
      (repeat' (first | refine Wq.moveE (by conv => { lhs; whnf }) ?_ | refine Wq.guardY rfl rfl ?_))
      refine Wq.idxAddr hzr (fun w' hw => New.keep hw) rfl rfl (by omega) hq fun b o cs hl hR hat => ?_
      obtain rfl : cs = pC q := hR
      (repeat' (first | refine Wq.guardY rfl rfl ?_ | refine Wq.fieldAddr rfl rfl ?_))
      refine Wq.load1 rfl (fun w' hw => (hat w' hw).get 1 rfl) ?_
      clear hat hzr
      (repeat' (first | refine Wq.nil ?_ | refine Wq.guardY rfl rfl ?_ | refine Wq.pickFE rfl (by conv => { lhs; whnf }) ?_ | refine Wq.sneq rfl rfl (fun _ => ?_) (fun _ => ?_)))
      · intro w4 n4
        (repeat' (first | refine Wl.assignE (by conv => { lhs; whnf }) ?_ | refine Wl.nil ?_ | refine Qseq.normal ?_ | refine Wc.seq ?_ | refine Wc.region ?_ | refine Wc.ret ?_ | refine Qseq.ret ?_ | refine Qblk.ret ?_ | refine Qloop.ret ?_ | refine Wc.condT rfl ?_))
        exact Qfn.ret1 rfl rfl (no2 (fun e => by cases e; exact absurd rfl (by assumption)) (New.trans n3 n4))
      intro w4 n4
      (repeat' (first | refine Wl.moveE (by conv => { lhs; whnf }) ?_ | refine Wl.assignE (by conv => { lhs; whnf }) ?_ | refine Wl.nil ?_ | refine Qseq.normal ?_ | refine Wc.region ?_ | refine Wc.skip ?_ | refine Qblk.normal ?_ | refine Wc.condF rfl ?_ | refine Wl.add rfl rfl (by omega) (by omega) ?_))
      refine Qloop.normal (j + 1) ⟨rfl, rfl, rfl, rfl, trivial⟩ ⟨by omega, take_ext hpt hp hq (Prod.ext (by assumption) (by assumption)), New.trans n3 n4⟩ (by omega)
    · have e : j = xs.length := by omega
      subst e
      have hxy := list_ext hpl hpt
      subst hxy
      refine Qloop.normal (i + 1) ⟨rfl, rfl, rfl, trivial⟩ ⟨by omega, take_ext htk hx hy rfl, n3⟩ (by omega)
  · have e : i = t.length := by omega
    subst e
    exact Qfn.ret1 rfl rfl ⟨_, rfl, true, rfl, ⟨fun _ => list_ext hlen htk, fun _ => rfl⟩, n1⟩
end Go.Proofs.YtlkhajheecglgaaDoor

namespace Go.Proofs.YtlkhajheecglgaaDoor
open Go Wk
open Go.RowKit (Below)
attribute [local irreducible] Go.Calls

theorem decM_cases (s : List UInt8) : (∃ l, decM s = (l, 0) ∧ treeOk l = true ∧ s = encL l) ∨ decM s = ([], 4) := by
  unfold decM
  cases h : readM s with
  | none => exact .inr rfl
  | some q =>
    obtain ⟨l, hd⟩ := q
    obtain ⟨h1, h2, _⟩ := readM_sound h
    exact .inl ⟨l, rfl, h1, h2⟩
theorem mod_range {a : Int} {L : Nat} (h : 0 < L) : ∃ n : Nat, ((a.tmod L) + L).tmod L = (n : Int) ∧ n < L ∧ -(L : Int) < a.tmod L ∧ a.tmod L < L := by
  have h1 : -(L : Int) < a.tmod L := by
    have := Int.lt_tmod_of_pos a (b := (L : Int)) (by omega)
    exact this
  have h2 : a.tmod L < L := Int.tmod_lt_of_pos a (by omega)
  obtain ⟨m, hm⟩ := Int.eq_ofNat_of_zero_le (show 0 ≤ a.tmod L + L by omega)
  refine ⟨m % L, ?_, Nat.mod_lt _ h, h1, h2⟩
  rw [hm]; rfl
section
variable {P : Program} {n : Nat} {ds : List Deferred} {Q : Po} {F : Fr} {w : World} {ops rest : List Oper} {d : Nat} {ty : TypeId} {pos : String} {aft : Array Edge}
theorem run_xor8 (c e : UInt8) : Op.intBits .xor .u8 (c.toNat : Int) (e.toNat : Int) = pure (.int .u8 ((c ^^^ e).toNat : Int)) := by
  have hb : ∀ c : UInt8, BitVec.ofInt IntKind.u8.bits (c.toNat : Int) = c.toBitVec := fun c => by
    show BitVec.ofInt 8 (c.toNat : Int) = c.toBitVec
    rw [BitVec.ofInt_natCast]; exact BitVec.ofNat_uInt8ToNat c
  have h1 : (BitVec.ofInt IntKind.u8.bits (c.toNat : Int) ^^^ BitVec.ofInt IntKind.u8.bits (e.toNat : Int)).toNat = (c ^^^ e).toNat := by rw [hb, hb]; rfl
  simp only [Op.intBits, h1]
  have := (c ^^^ e).toNat_lt
  rw [wrap_u rfl (by omega) (by show _ < (2 : Int) ^ 8; omega)]
theorem Wk.Wl.xor8 {x y : Operand} {t t' : TypeId} {c e : UInt8} (hx : ev n F x = by8 c) (hy : ev n F y = by8 e) (k : Wl P n ds Q ops rest (upd F d (by8 (c ^^^ e))) w) : Wl P n ds Q ops (⟨some d, .binOp .xor t x y t', ty, pos, aft, none⟩ :: rest) F w := by
  refine Wl.val ?_ k
  simp only [execOp, hx, hy, by8, Sem.run_bind, run_eqGuard_int, Result.andThen_ok]
  have : binOp .xor t (.int .u8 (c.toNat : Int)) (.int .u8 (e.toNat : Int)) = Op.intBits .xor .u8 (c.toNat : Int) (e.toNat : Int) := by simp [binOp]
  rw [this, run_xor8]; rfl
theorem Wk.Wl.beql {x y : Operand} {t t' : TypeId} {a b : Bool} [ht : Und P t .bool] (hx : ev n F x = .bool a) (hy : ev n F y = .bool b) (c : Wl P n ds Q ops rest (upd F d (.bool (a == b))) w) : Wl P n ds Q ops (⟨some d, .binOp .eql t x y t', ty, pos, aft, none⟩ :: rest) F w := by
  refine Wl.val ?_ c
  have h : (Op.equalIn 10000 t (.bool a) (.bool b)).run P w = .ok (a == b) w := run_equalIn_bool' (P := P) w 9999 t a b ht.h
  have hb : (binOp .eql t (.bool a) (.bool b)).run P w = .ok (.bool (a == b)) w := by
    simp only [binOp]
    simp [Op.equal, Op.maxDepth, h]
  simp only [execOp, hx, hy, Sem.run_bind, run_eqGuard_bool, Result.andThen_ok, hb, Sem.run_pure]
theorem Wk.Wl.strBytesF {x : Operand} {t t' e : TypeId} {l : List UInt8} [ht : Und P t .string] [ht' : Und P t' (.slice e)] [he : Und P e (.int .u8)] (hx : ev n F x = vs l) (hlm : l.length ≤ maxLen)
    (c : ∀ w' cap C, w'.heap[w.heap.size]? = some (.cells C e (C.size, C.size + 1)) → C.toList.take l.length = l.map (fun b => .int .u8 b.toNat) → l.length ≤ C.size → New w w' → w'.heap.size = w.heap.size + 1 →
      RdS (one fun b : UInt8 => .int .u8 b.toNat) 1 (fun b => w.heap.size ≤ b) w' (.slice (some ⟨w.heap.size, 0, none⟩) l.length cap) l → Wl P n ds Q ops rest (upd F d (.slice (some ⟨w.heap.size, 0, none⟩) l.length cap)) w') :
    Wl P n ds Q ops (⟨some d, .convert t t' x, ty, pos, aft, none⟩ :: rest) F w := by
  have hs : (⟨l.toArray⟩ : ByteArray).size = l.length := by simp [ByteArray.size]
  have hr := Lib.run_convert_string_bytes (P := P) w t t' e ⟨l.toArray⟩ ht.h ht'.h he.h
  have hge := grownCap_ge w l.length 0 e
  have hle := grownCap_le_maxLen w l.length 0 e hlm
  rw [hs] at hr
  have hC : Lib.bytesCells w e ⟨l.toArray⟩ = (l.map (fun b => Value.int .u8 b.toNat)).toArray ++ Array.replicate (grownCap w l.length 0 e - l.length) (.int .u8 0) := by
    simp [Lib.bytesCells, hs]
  have hnew := Lib.bytesWorld_at_new w e ⟨l.toArray⟩
  have htk : (Lib.bytesCells w e ⟨l.toArray⟩).toList.take l.length = l.map (fun b => Value.int .u8 b.toNat) := by
    rw [hC, Array.toList_append, List.take_append_of_le_length (by simp), List.take_of_length_le (by simp)]
  have hsz : l.length ≤ (Lib.bytesCells w e ⟨l.toArray⟩).size := by rw [hC]; simp
  have hn : New w (Lib.bytesWorld w e ⟨l.toArray⟩) := by
    refine ⟨rfl, rfl, rfl, by rw [Lib.bytesWorld_size]; omega, fun k hk _ => Lib.bytesWorld_at_old w e _ k hk⟩
  refine Wl.val (w' := Lib.bytesWorld w e ⟨l.toArray⟩) ?_ (c _ (grownCap w l.length 0 e) _ hnew htk hsz hn (Lib.bytesWorld_size w e _) ?_)
  · simp only [execOp, hx, Sem.run_bind, hr, Result.andThen_ok, Sem.run_pure]
  · refine .inr (.inr ⟨w.heap.size, 0, _, _, _, _, rfl, Nat.le_refl _, hnew, hge, hle, by omega, fun i b hb => ?_⟩)
    have hi : i < l.length := (List.getElem?_eq_some_iff.1 hb).1
    have h1 := congrArg (fun q => q[i]?) htk
    simp only [List.getElem?_take, if_pos hi, List.getElem?_map, hb, Option.map_some] at h1
    obtain ⟨h2, h3⟩ := List.getElem?_eq_some_iff.1 h1
    simp only [one, Nat.zero_add, Nat.mul_one]
    rw [List.drop_eq_getElem_cons h2, h3]; rfl

/-- A store into a row of which a part beside is frozen. -/
theorem Wk.Wl.storeF {x y : Operand} {e bytes : Nat} {agg : Bool} {z u : Value} {b o : Nat} {T : TypeId} {C : Array Value} {fr : Nat × Nat} [he : ElT P e 1 bytes agg z] (h : w.heap[b]? = some (.cells C T fr)) (hx : ev n F x = .pointer (some ⟨b, o, none⟩)) (ho : o < C.size) (hfr : o < fr.1) (hy : ev n F y = u) (hu : u.oneCell' = true)
    (c : ∀ w', w'.heap[b]? = some (.cells (C.setIfInBounds o u) T fr) → Chg (fun k => k = b) w w' → Wl P n ds Q ops rest F w') : Wl P n ds Q ops (⟨none, .store e x y, ty, pos, aft, none⟩ :: rest) F w := by
  have huc : u.cells = #[u] := by cases u <;> simp_all [Value.cells, Value.oneCell']
  have hc : w.cell? ⟨b, o, none⟩ = some C[o] := by simp [World.cell?, h, ho]
  have hz : w.frozen? ⟨b, o, none⟩ = false := by simp [World.frozen?, h]; omega
  refine Wl.unit (w' := w.setCell ⟨b, o, none⟩ u) ?_ (c _ ?_ (Chg.store b o u))
  · simp only [execOp, hx, hy, Sem.run_bind, Instr.storeAt, Instr.sureAddr, storeVar, Sem.run_pure, Result.andThen_ok, he.sizeOf, huc]
    simp [storeCells, run_store P w _ _ _ hu, addr_add, hc, hz]
  · simp [World.setCell, Array.getElem?_modify, h]
end
theorem xor_ne {s : List UInt8} {n : Nat} {c e : UInt8} (h : s[n]? = some c) : s.set n (c ^^^ e) = s ↔ e = 0 := by
  have hn := (List.getElem?_eq_some_iff.1 h).1
  constructor
  · intro he
    have h1 : (s.set n (c ^^^ e))[n]? = s[n]? := by rw [he]
    rw [List.getElem?_set, if_pos rfl, if_pos hn, h] at h1
    have h2 : c ^^^ e = c := by simpa using h1
    have h3 : c ^^^ (c ^^^ e) = c ^^^ c := by rw [h2]
    rw [← UInt8.xor_assoc, UInt8.xor_self, UInt8.zero_xor] at h3
    exact h3
  · rintro rfl
    rw [UInt8.xor_zero]
    obtain ⟨h1, h2⟩ := List.getElem?_eq_some_iff.1 h
    rw [← h2]; exact List.set_getElem_self h1
theorem tree_TxOk {l : List Nd} (h : treeOk l = true) : ∀ x ∈ l, TxOk x.props := fun x hx p hp => by
  have := ((propsOk_all (tree_pr h x hx)).2 p hp).1.2
  simp only [maxLen]; omega
set_option maxRecDepth 4000 in
set_option maxHeartbeats 4000000 in
theorem one_law {w : World} {s : List UInt8} {at_ : Int} {y : UInt8} (hs : s.length ≤ 9223372036854775806) :
    Calls Tryd.prog 3 #[vs s, vi at_, by8 y] w (Ret fun r w' => r = .bool true ∧ New w w') := by
  refine calls_of_Wc Tryd.func3 rfl Tryd.ntmps3 rfl ?_
  (repeat' (first | refine Wl.moveE (by conv => { lhs; whnf }) ?_ | refine Wl.assignE (by conv => { lhs; whnf }) ?_ | refine Wl.nil ?_ | refine Qseq.normal ?_ | refine Wc.seq ?_ | refine Wc.region ?_))
  refine Wl.call (Decode_spec hs) rfl ?_
  rintro _ w1 ⟨nv, lab, pvs, rfl, tr, n1⟩
  rcases decM_cases s with ⟨l, hd, hok, hse⟩ | hd
  rotate_left
  · rw [hd] at tr ⊢
    obtain ⟨na, nc, rfl, _, _⟩ := tr.rd.form
    (repeat' (first | refine Wl.moveE (by conv => { lhs; whnf }) ?_ | refine Wl.assignE (by conv => { lhs; whnf }) ?_ | refine Wl.nil ?_ | refine Wl.extract rfl rfl ?_ | refine Wl.guardY rfl rfl ?_ | refine Wl.lenS rfl ?_ | refine Qseq.normal ?_ | refine Wc.seq ?_ | refine Wc.region ?_ | refine Wc.condT rfl ?_ | (refine Wl.eql rfl rfl (fun _ => ?_) (fun _ => ?_) <;> (first | (exfalso; contradiction) | skip)) | (refine Wl.neq rfl rfl (fun _ => ?_) (fun _ => ?_) <;> (first | (exfalso; omega) | skip))))
    refine Wl.call awake_spec rfl ?_
    rintro _ w2 ⟨rfl, n2⟩
    (repeat' (first | refine Wl.assignE (by conv => { lhs; whnf }) ?_ | refine Wl.nil ?_ | refine Wl.pickTE rfl (by conv => { lhs; whnf }) ?_ | refine Qseq.normal ?_ | refine Wc.ret ?_ | refine Qseq.ret ?_))
    exact Qfn.ret1 rfl rfl ⟨_, rfl, rfl, New.trans n1 n2⟩
  rw [hd] at tr ⊢
  have htx := tree_TxOk hok
  have rl := tr.rd
  obtain ⟨na, nc, hnv, _, _⟩ := rl.form
  (repeat' (first | refine Wl.moveE (by conv => { lhs; whnf }) ?_ | refine Wl.assignE (by conv => { lhs; whnf }) ?_ | refine Wl.nil ?_ | refine Wl.extract rfl rfl ?_ | refine Qseq.normal ?_ | refine Wc.seq ?_ | refine Wc.region ?_ | refine Wc.skip ?_ | refine Wc.condF rfl ?_ | (refine Wl.neq rfl rfl (fun _ => ?_) (fun _ => ?_) <;> (first | (exfalso; omega) | skip))))
  refine Wl.call (Encode_spec rl htx) rfl ?_
  rintro _ w2 ⟨rfl, n2⟩
  have rl2 := rl.keep stableNd n2.keep
  have n02 := New.trans n1 n2
  rw [if_pos hok, if_pos hok, ← hse]
  have hel := encL_length l
  rw [← hse] at hel
  have hs1 := struct_size hok
  have hs2 := names_size hok
  have hs3 := strings_size l
  obtain ⟨n, hn, hnl, hm1, hm2⟩ := mod_range (a := at_) (L := s.length) (by omega)
  obtain ⟨c, hc⟩ := get_lt s (k := n) hnl
  (repeat' (first | refine Wl.moveE (by conv => { lhs; whnf }) ?_ | refine Wl.assignE (by conv => { lhs; whnf }) ?_ | refine Wl.nil ?_ | refine Wl.extract rfl rfl ?_ | refine Wl.guardY rfl rfl ?_ | refine Wl.pickFE rfl (by conv => { lhs; whnf }) ?_ | refine Wl.lenStr rfl ?_ | refine Qseq.normal ?_ | refine Wc.seq ?_ | refine Wc.region ?_ | refine Wc.skip ?_ | refine Wc.condF rfl ?_ | (refine Wl.neq rfl rfl (fun _ => ?_) (fun _ => ?_) <;> (first | (exfalso; omega) | skip)) | (refine Wl.sneq rfl rfl (fun _ => ?_) (fun _ => ?_) <;> (first | (exfalso; contradiction) | skip))))
  refine Wl.remW rfl rfl (by omega) ?_
  (repeat' (first | refine Wl.moveE (by conv => { lhs; whnf }) ?_ | refine Wl.lenStr rfl ?_ | refine Wl.add rfl rfl (by omega) (by omega) ?_))
  refine Wl.remW rfl rfl (by omega) ?_
  rw [hn]
  (repeat' (first | refine Wl.moveE (by conv => { lhs; whnf }) ?_ | refine Wl.assignE (by conv => { lhs; whnf }) ?_ | refine Wl.nil ?_ | refine Qseq.normal ?_ | refine Wc.seq ?_ | refine Wc.region ?_))
  refine Wl.strBytesF rfl (by simp only [maxLen]; omega) fun w3 cap C hC htk hsz n3 s3 rb => ?_
  (repeat' (first | refine Wl.moveE (by conv => { lhs; whnf }) ?_ | refine Wl.assignE (by conv => { lhs; whnf }) ?_ | refine Wl.nil ?_ | refine Qseq.normal ?_ | refine Wc.seq ?_ | refine Wc.region ?_))
  refine Wl.idxLoadV rb rfl rfl (by omega) (by rw [Int.toNat_natCast]; exact hc) rfl rfl fun p3 => ?_
  (repeat' (refine Wl.moveE (by conv => { lhs; whnf }) ?_))
  refine Wl.xor8 rfl rfl ?_
  refine Wl.idxP rfl rfl (by omega) (by omega) ?_
  rw [show 0 + (n : Int).toNat * 1 = n by omega]
  refine Wl.storeF (u := by8 (c ^^^ y)) hC rfl (by omega) (by dsimp only; omega) rfl rfl fun w4 hC4 c4 => ?_
  have n34 : New w2 w4 := Chg.trans n3 c4 fun k hk e => by omega
  have n04 := New.trans n02 n34
  have rl4 := rl2.keep stableNd n34.keep
  have rb4 : RdS (one by8) 1 (fun b => w2.heap.size ≤ b) w4 (.slice (some ⟨w2.heap.size, 0, none⟩) s.length cap) (s.set n (c ^^^ y)) := by
    rcases rb with ⟨e, _⟩ | ⟨a, cap', e, e2, _⟩ | ⟨b, off, cap', cur, e', fr, e, hb, hh, h1, h2, h3, h4⟩
    · cases e
    · rw [e2] at hnl; simp at hnl
    · simp only [Value.slice.injEq, Option.some.injEq, Addr.mk.injEq] at e
      obtain ⟨⟨rfl, rfl, _⟩, _, rfl⟩ := e
      rw [hC] at hh
      cases hh
      refine .inr (.inr ⟨_, 0, cap, _, _, _, by rw [List.length_set], Nat.le_refl _, hC4, by rw [List.length_set]; exact h1, h2, by rw [List.length_set]; simpa using h3, fun i x hx => ?_⟩)
      have hi : i < s.length := by have := (List.getElem?_eq_some_iff.1 hx).1; simpa using this
      rw [List.getElem?_set] at hx
      simp only [one, Nat.zero_add, Nat.mul_one, Array.toList_setIfInBounds] at h4 ⊢
      have hlen : i < (C.toList.set n (by8 (c ^^^ y))).length := by simp; omega
      rw [List.drop_eq_getElem_cons hlen, List.getElem_set]
      by_cases hni : n = i
      · subst hni
        rw [if_pos rfl, if_pos hnl] at hx
        cases hx
        rw [if_pos rfl]; rfl
      · rw [if_neg hni] at hx
        rw [if_neg hni]
        have h5 := h4 i x hx
        rw [List.drop_eq_getElem_cons (by simp; omega)] at h5
        simpa using h5
  (repeat' (first | refine Wl.moveE (by conv => { lhs; whnf }) ?_ | refine Wl.nil ?_ | refine Qseq.normal ?_ | refine Wc.seq ?_ | refine Wc.region ?_))
  refine Wl.bytesStr rb4 rfl ?_
  have hx := xor_ne (e := y) hc
  have hbl : (s.set n (c ^^^ y)).length = s.length := List.length_set
  generalize hB : s.set n (c ^^^ y) = B at *
  refine Wl.call (Decode_spec (s := B) (by omega)) rfl ?_
  rintro _ w5 ⟨mv, lab5, pvs5, rfl, tr5, n5⟩
  have n05 := New.trans n04 n5
  have hy0 : (y.toNat : Int) = 0 ↔ y = 0 := ⟨fun h => UInt8.toNat_inj.1 (by rw [UInt8.toNat_zero]; omega), fun h => by rw [h]; rfl⟩
  rcases decM_cases B with ⟨m, hdm, hokm, hme⟩ | hdm
  rotate_left
  · rw [hdm] at tr5 ⊢
    obtain ⟨ma, mc, rfl, _, _⟩ := tr5.rd.form
    have hyn : ¬ (y.toNat : Int) = 0 := fun h => by
      rw [hx.2 (hy0.1 h), hd] at hdm
      cases hdm
    (repeat' (first | refine Wl.moveE (by conv => { lhs; whnf }) ?_ | refine Wl.assignE (by conv => { lhs; whnf }) ?_ | refine Wl.nil ?_ | refine Wl.extract rfl rfl ?_ | refine Wl.guardY rfl rfl ?_ | refine Wl.pickTE rfl (by conv => { lhs; whnf }) ?_ | refine Wl.lenS rfl ?_ | refine Qseq.normal ?_ | refine Wc.seq ?_ | refine Wc.region ?_ | refine Wc.condT rfl ?_ | (refine Wl.eql rfl rfl (fun _ => ?_) (fun _ => ?_) <;> (first | (exfalso; omega) | (exfalso; contradiction) | skip)) | (refine Wl.neq rfl rfl (fun _ => ?_) (fun _ => ?_) <;> (first | (exfalso; omega) | skip))))
    refine Wl.call awake_spec rfl ?_
    rintro _ w6 ⟨rfl, n6⟩
    (repeat' (first | refine Wl.assignE (by conv => { lhs; whnf }) ?_ | refine Wl.nil ?_ | refine Wl.pickTE rfl (by conv => { lhs; whnf }) ?_ | refine Qseq.normal ?_ | refine Wc.ret ?_ | refine Qseq.ret ?_))
    exact Qfn.ret1 rfl rfl ⟨_, rfl, rfl, New.trans n05 n6⟩
  rw [hdm] at tr5 ⊢
  have htm := tree_TxOk hokm
  have rm := tr5.rd
  obtain ⟨ma, mc, hmv, _, _⟩ := rm.form
  (repeat' (first | refine Wl.moveE (by conv => { lhs; whnf }) ?_ | refine Wl.assignE (by conv => { lhs; whnf }) ?_ | refine Wl.nil ?_ | refine Wl.extract rfl rfl ?_ | refine Qseq.normal ?_ | refine Wc.seq ?_ | refine Wc.region ?_ | refine Wc.skip ?_ | refine Wc.condF rfl ?_ | (refine Wl.neq rfl rfl (fun _ => ?_) (fun _ => ?_) <;> (first | (exfalso; omega) | skip))))
  refine Wl.call (Encode_spec rm htm) rfl ?_
  rintro _ w6 ⟨rfl, n6⟩
  rw [if_pos hokm, if_pos hokm, ← hme]
  have n56 := New.trans n5 n6
  have rb6 := rb4.keep (stable_one _) n56.keep
  (repeat' (first | refine Wl.moveE (by conv => { lhs; whnf }) ?_ | refine Wl.assignE (by conv => { lhs; whnf }) ?_ | refine Wl.nil ?_ | refine Wl.extract rfl rfl ?_ | refine Wl.guardY rfl rfl ?_ | refine Qseq.normal ?_ | refine Wc.seq ?_ | refine Wc.region ?_ | (refine Wl.eql rfl rfl (fun _ => ?_) (fun _ => ?_) <;> (first | (exfalso; omega) | skip))))
  refine Wl.bytesStr rb6 rfl ?_
  (repeat' (first | refine Wl.moveE (by conv => { lhs; whnf }) ?_ | refine Wl.guardY rfl rfl ?_ | refine Wl.pickTE rfl (by conv => { lhs; whnf }) ?_ | (refine Wl.seql rfl rfl (fun _ => ?_) (fun _ => ?_) <;> (first | (exfalso; contradiction) | skip))))
  refine Wl.call (alike_spec (rl4.keep stableNd n56.keep) (rm.keep stableNd n6.keep)) rfl ?_
  rintro _ w7 ⟨q, rfl, hq, n7⟩
  (repeat' (first | refine Wl.moveE (by conv => { lhs; whnf }) ?_ | refine Wl.guardY rfl rfl ?_ | refine Wl.eql rfl rfl (fun _ => ?_) (fun _ => ?_)))
  · have hyy : y = 0 := hy0.1 (by assumption)
    have hBs := hx.2 hyy
    rw [hBs, hd] at hdm
    have hlm : l = m := by cases hdm; rfl
    obtain rfl : q = true := hq.2 hlm
    refine Wl.beql rfl rfl ?_
    rw [show (true == true) = true from rfl]
    (repeat' (first | refine Wl.moveE (by conv => { lhs; whnf }) ?_ | refine Wl.guardY rfl rfl ?_ | refine Wl.pickTE rfl (by conv => { lhs; whnf }) ?_))
    refine Wl.call awake_spec rfl ?_
    rintro _ w8 ⟨rfl, n8⟩
    (repeat' (first | refine Wl.assignE (by conv => { lhs; whnf }) ?_ | refine Wl.nil ?_ | refine Wl.pickTE rfl (by conv => { lhs; whnf }) ?_ | refine Qseq.normal ?_ | refine Wc.ret ?_))
    exact Qfn.ret1 rfl rfl ⟨_, rfl, rfl, New.trans (New.trans (New.trans n05 n6) n7) n8⟩
  · have hyy : y ≠ 0 := fun e => absurd (hy0.2 e) (by assumption)
    have hqf : q = false := by
      cases q with
      | false => rfl
      | true =>
        have e : l = m := hq.1 rfl
        exact absurd (hx.1 (by rw [hme, hse, e])) hyy
    subst hqf
    refine Wl.beql rfl rfl ?_
    rw [show (false == false) = true from rfl]
    (repeat' (first | refine Wl.moveE (by conv => { lhs; whnf }) ?_ | refine Wl.guardY rfl rfl ?_ | refine Wl.pickTE rfl (by conv => { lhs; whnf }) ?_))
    refine Wl.call awake_spec rfl ?_
    rintro _ w8 ⟨rfl, n8⟩
    (repeat' (first | refine Wl.assignE (by conv => { lhs; whnf }) ?_ | refine Wl.nil ?_ | refine Wl.pickTE rfl (by conv => { lhs; whnf }) ?_ | refine Qseq.normal ?_ | refine Wc.ret ?_))
    exact Qfn.ret1 rfl rfl ⟨_, rfl, rfl, New.trans (New.trans (New.trans n05 n6) n7) n8⟩
end Go.Proofs.YtlkhajheecglgaaDoor

namespace Go.Proofs.YtlkhajheecglgaaDoor
open Go Wk

theorem enc_lt {l : List Nd} (h : treeOk l = true) : (encL l).length < 4294967296 := by
  have h1 := encL_length l
  have h2 := struct_size h
  have h3 := names_size h
  have h4 := strings_size l
  omega
theorem take8 {x y r s : List UInt8} (hx : x.length = 4) (hy : y.length = 4) : ((x ++ (y ++ r)) ++ s).take 8 = x ++ y := by
  rw [show x ++ (y ++ r) ++ s = (x ++ y) ++ (r ++ s) by simp]
  rw [show (8 : Nat) = (x ++ y).length by simp [hx, hy]]
  exact List.take_left
theorem encL_head (l : List Nd) : (encL l).take 8 = cell4 0xD00DFEED ++ cell4 (encL l).length := by
  rw [encL_length]
  unfold encL headB
  exact take8 (cell4_length _) (cell4_length _)
theorem enc_len_of {l m : List Nd} (h : treeOk l = true) (h' : treeOk m = true) (e : (encL l).take 8 = (encL m).take 8) : (encL l).length = (encL m).length := by
  rw [encL_head, encL_head] at e
  have e2 := List.append_cancel_left e
  have e3 := congrArg num4 e2
  rwa [num4_cell (enc_lt h), num4_cell (enc_lt h')] at e3
theorem enc_ge (l : List Nd) : 32 ≤ (encL l).length := by rw [encL_length]; omega
theorem decM_cut {l : List Nd} (h : treeOk l = true) {n : Nat} (hn : n < (encL l).length) : decM ((encL l).take n) = ([], 4) := by
  rcases decM_cases ((encL l).take n) with ⟨m, _, hm, he⟩ | hd
  · exfalso
    have hg := enc_ge m
    have hl : (encL m).length = n := by rw [← he, List.length_take]; omega
    have e8 : (encL l).take 8 = (encL m).take 8 := by
      rw [← he, List.take_take]; congr 1; omega
    have := enc_len_of h hm e8
    omega
  · exact hd
theorem decM_more {l : List Nd} (h : treeOk l = true) {more : List UInt8} (hn : more ≠ []) : decM (encL l ++ more) = ([], 4) := by
  rcases decM_cases (encL l ++ more) with ⟨m, _, hm, he⟩ | hd
  · exfalso
    have hg := enc_ge l
    have e8 : (encL l).take 8 = (encL m).take 8 := by
      rw [← he, List.take_append_of_le_length (by omega)]
    have h1 := enc_len_of h hm e8
    have h2 := congrArg List.length he
    rw [List.length_append] at h2
    exact hn (List.eq_nil_of_length_eq_zero (by omega))
  · exact hd
theorem enc_inj {l m : List Nd} (h : treeOk l = true) (h' : treeOk m = true) : encL l = encL m ↔ l = m := by
  refine ⟨fun e => ?_, fun e => by rw [e]⟩
  have h1 := dec_full h
  have h2 := dec_full h'
  rw [e, h2] at h1
  exact (Prod.mk.inj h1).1.symm
theorem up4_mod (n : Nat) : up4 n % 4 = 0 := by unfold up4; omega
theorem flat_mod (all : List Nm) : ∀ ps : List Pr, (ps.flatMap (propB all)).length % 4 = 0
  | [] => rfl
  | p :: ps => by
    have := flat_mod all ps
    have := up4_mod p.2.length
    simp only [List.flatMap_cons, List.length_append, propB, cell4_length, fil_length]
    omega
mutual
theorem stT_mod (all : List Nm) : ∀ τ : T, (stT all τ).length % 4 = 0
  | .mk nm ps ks => by
    have h1 := stK_mod all ks
    have h2 := flat_mod all ps
    have h3 := up4_mod (nm ++ [0]).length
    simp only [stT, nodeB, List.length_append, cell4_length, fil_length] at h3 ⊢
    omega
theorem stK_mod (all : List Nm) : ∀ ks : List T, (stK all ks).length % 4 = 0
  | [] => rfl
  | t :: ts => by
    have h1 := stT_mod all t
    have h2 := stK_mod all ts
    simp only [stK, List.length_append]
    omega
end
theorem struct_mod {l : List Nd} (h : treeOk l = true) : (structL l).length % 4 = 0 := by
  obtain ⟨τ, rfl, _⟩ := treeOk_parse h
  rw [structL_T h]
  have := stT_mod (namesN [] (flT τ (-1) 0)) τ
  rw [List.length_append, cell4_length]
  omega
end Go.Proofs.YtlkhajheecglgaaDoor

namespace Go.Proofs.YtlkhajheecglgaaDoor
open Go Wk
open Go.RowKit (Below)
attribute [local irreducible] Go.Calls

section
variable {P : Program} {n : Nat} {ds : List Deferred} {C : World → Prop} {K : Fr → Prop} {F : Fr} {ops rest : List Oper} {d : Nat} {ty : TypeId} {pos : String} {aft : Array Edge}
theorem Wk.Wq.sliceToP {x hi : Operand} {t e sz bytes : Nat} {agg : Bool} {z : Value} {k : IntKind} {p : Option Addr} {l cap b : Nat} [ht : Und P t (.slice e)] [he : ElT P e sz bytes agg z] (hx : ev n F x = .slice p l cap) (hh : ev n F hi = .int k b) (h1 : b ≤ cap)
    (c : Wq P n ds C K ops rest (upd F d (.slice p b cap))) : Wq P n ds C K ops (⟨some d, .slice t x none (some hi) none, ty, pos, aft, none⟩ :: rest) F :=
  Wq.val (fun w hw => by
    have := run_sliceS (P := P) (w := w) (p := p) (l := l) (lo := none) (hi := some (.int k b)) (a := 0) (b := b) ht.h he (.inl ⟨rfl, rfl⟩) (.inr ⟨k, rfl⟩) (Nat.zero_le _) h1
    have hp : (if cap = 0 then p else p.map (·.add (0 * sz))) = p := by
      split
      · rfl
      · cases p with
        | none => rfl
        | some a => simp [Addr.add]
    simp only [execOp, hx, hh, Option.map_none, Option.map_some, Sem.run_bind, this, Result.andThen_ok, Sem.run_pure, hp, Nat.sub_zero]) c
end
/-- What a list of nodes that memory holds is at most. -/
structure Sz (l : List Nd) : Prop where
  len : l.length * 48 ≤ 140737488351232
  pl : ∀ x ∈ l, x.props.length * 32 ≤ 140737488351232
  nm : ∀ x ∈ l, x.name.length ≤ 140737488351232
  tx : ∀ x ∈ l, ∀ p ∈ x.props, p.1.length ≤ 140737488351300 ∧ p.2.length ≤ 140737488351300
abbrev mkP : Pr := ([33], [])
abbrev mkN : Nd × Sl := (⟨-9, [], []⟩, (none, 0, 0))
/-- A list of props with a mark behind it. -/
def LentP (Pb : Nat → Prop) (w : World) (pv : Sl) (l : List Pr) : Prop := ∃ pa pc, pv = (pa, l.length, pc) ∧ OwnPr Pb w (.slice pa (l.length + 1) pc) (l ++ [mkP])
/-- Nodes in a list of one's own, each with a list of props of its own and a mark behind that. -/
structure TrM (lo : Nat) (lab : Lb) (w : World) (v : Value) (t : List Nd) (pvs : List Sl) : Prop where
  len : pvs.length = t.length
  low : ∀ b c, lab b = some c → lo ≤ b ∧ b < w.heap.size
  arr : OwnS (flat ndV) tNd 3 (fun b => lab b = some 0) No w v (t.zip pvs)
  pr : ∀ i x pv, t[i]? = some x → pvs[i]? = some pv → LentP (fun b => lab b = some (i + 1)) w pv x.props
section
variable {lo : Nat} {lab lab' : Lb} {w w' : World} {v : Value} {t : List Nd} {pvs : List Sl} {M : Nat → Prop}
theorem TrM.nil {lo : Nat} {w : World} : TrM lo (fun _ => none) w (.slice none 0 0) [] [] :=
  ⟨rfl, fun b c e => (by cases e), OwnS.nil, fun i x pv h => by simp at h⟩
theorem LentP.chg {Pb : Nat → Prop} {pv : Sl} {l : List Pr} (h : LentP Pb w pv l) (c : Chg M w w') (d : ∀ b, Pb b → b < w.heap.size → ¬ M b) : LentP Pb w' pv l := by
  obtain ⟨pa, pc, e, o⟩ := h
  exact ⟨pa, pc, e, o.chg plainPr c fun b hb => d b (o.lt hb).1 (o.lt hb).2⟩
theorem LentP.reblk {Pb Pb' : Nat → Prop} {pv : Sl} {l : List Pr} (h : LentP Pb w pv l) (d : ∀ b, Pb b → b < w.heap.size → Pb' b) : LentP Pb' w pv l := by
  obtain ⟨pa, pc, e, o⟩ := h
  exact ⟨pa, pc, e, o.reblk fun b hb hp => d b hp (o.lt hb).2⟩
theorem TrM.chg (h : TrM lo lab w v t pvs) (c : Chg M w w') (hM : ∀ b, b < w.heap.size → M b → lab b = none) : TrM lo lab w' v t pvs := by
  have c' : Chg (fun b => M b ∧ b < w.heap.size) w w' := c.mono fun k hk e => ⟨e, hk⟩
  exact ⟨h.len, fun b q e => ⟨(h.low b q e).1, Nat.lt_of_lt_of_le (h.low b q e).2 c.size⟩, h.arr.chg (plain_flat ndV) c' (fun b hb e => by have := (h.arr.lt hb).1; rw [hM b e.2 e.1] at this; cases this),
    fun i x pv hx hp => (h.pr i x pv hx hp).chg c' fun b hb _ e => by rw [hM b e.2 e.1] at hb; cases hb⟩
theorem TrM.new (h : TrM lo lab w v t pvs) (c : New w w') : TrM lo lab w' v t pvs := h.chg c fun _ _ e => e.elim
theorem TrM.snoc {w2 w3 : World} (h : TrM lo lab w v t pvs) (hlo : lo ≤ w.heap.size) {x : Nd} {pv : Sl} {v' : Value} (n : New w w2) (hp : LentP (fun b => w.heap.size ≤ b) w2 pv x.props)
    (ha : OwnS (flat ndV) tNd 3 (fun b => lab b = some 0 ∨ w2.heap.size ≤ b) No w3 v' (t.zip pvs ++ [(x, pv)])) (c : Chg (fun b => v.ownBlock = some b) w2 w3) :
    ∃ lab', TrM lo lab' w3 v' (t ++ [x]) (pvs ++ [pv]) := by
  let lab' : Lb := fun b => if b < w.heap.size then lab b else if b < w2.heap.size then some (t.length + 1) else if b < w3.heap.size then some 0 else none
  have hold : ∀ b, b < w.heap.size → lab' b = lab b := fun b hb => if_pos hb
  have hpl : t.length = pvs.length := h.len.symm
  refine ⟨lab', ⟨by simp [h.len], fun b q e => ?_, ?_, fun i y qv hy hq => ?_⟩⟩
  · have := n.size
    have := c.size
    by_cases hb : b < w.heap.size
    · rw [hold b hb] at e; have := h.low b q e; omega
    · simp only [lab', if_neg hb] at e
      split at e
      · omega
      · split at e
        · omega
        · cases e
  · rw [List.zip_append hpl]
    refine ha.reblk fun b hb e => ?_
    have hlt := (ha.lt hb).2
    rcases e with e | e
    · exact (hold b (h.low b _ e).2).trans e
    · have := n.size
      simp only [lab', if_neg (show ¬ b < w.heap.size by omega), if_neg (show ¬ b < w2.heap.size by omega), if_pos hlt]
  · rw [List.getElem?_append] at hy hq
    have nv : ∀ b, v.ownBlock = some b → lab b = some 0 := fun b hb => (h.arr.lt hb).1
    split at hy
    · rename_i hi
      rw [if_pos (by omega)] at hq
      have h1 := ((h.pr i y qv hy hq).chg n fun _ _ _ e => e).chg c fun b hb _ e => by rw [nv b e] at hb; cases hb
      exact h1.reblk fun b e _ => (hold b (h.low b _ e).2).trans e
    · rename_i hi
      rw [if_neg (by omega)] at hq
      have hi0 : i = t.length := by
        have := (List.getElem?_eq_some_iff.1 hy).1
        simp at this; omega
      subst hi0
      simp at hy
      rw [hpl] at hq
      simp at hq
      subst hy
      subst hq
      have hp2 : LentP (fun b => w.heap.size ≤ b ∧ b < w2.heap.size) w2 pv x.props := hp.reblk fun b e hb => ⟨e, hb⟩
      have h1 := hp2.chg c fun b hb _ e => by have := (h.low b _ (nv b e)).2; omega
      refine h1.reblk fun b e _ => ?_
      simp only [lab', if_neg (show ¬ b < w.heap.size by omega), if_pos e.2]
end
/-- The same with a mark behind the list. -/
structure TrL (lo : Nat) (lab : Lb) (w : World) (a : Option Addr) (cap : Nat) (t : List Nd) (pvs : List Sl) : Prop where
  len : pvs.length = t.length
  low : ∀ b c, lab b = some c → lo ≤ b ∧ b < w.heap.size
  arr : OwnS (flat ndV) tNd 3 (fun b => lab b = some 0) No w (.slice a (t.length + 1) cap) (t.zip pvs ++ [mkN])
  pr : ∀ i x pv, t[i]? = some x → pvs[i]? = some pv → LentP (fun b => lab b = some (i + 1)) w pv x.props
theorem TrL.chg {lo : Nat} {lab : Lb} {w w' : World} {a : Option Addr} {cap : Nat} {t : List Nd} {pvs : List Sl} {M : Nat → Prop} (h : TrL lo lab w a cap t pvs) (c : Chg M w w') (hM : ∀ b, b < w.heap.size → M b → lab b = none) : TrL lo lab w' a cap t pvs := by
  have c' : Chg (fun b => M b ∧ b < w.heap.size) w w' := c.mono fun k hk e => ⟨e, hk⟩
  exact ⟨h.len, fun b q e => ⟨(h.low b q e).1, Nat.lt_of_lt_of_le (h.low b q e).2 c.size⟩, h.arr.chg (plain_flat ndV) c' (fun b hb e => by have := (h.arr.lt hb).1; rw [hM b e.2 e.1] at this; cases this),
    fun i x pv hx hp => (h.pr i x pv hx hp).chg c' fun b hb _ e => by rw [hM b e.2 e.1] at hb; cases hb⟩
theorem TrL.new {lo : Nat} {lab : Lb} {w w' : World} {a : Option Addr} {cap : Nat} {t : List Nd} {pvs : List Sl} (h : TrL lo lab w a cap t pvs) (c : New w w') : TrL lo lab w' a cap t pvs := h.chg c fun _ _ e => e.elim
theorem own_short {α : Type} {R : Rel α} {e : TypeId} {sz : Nat} {Pb Pe : Nat → Prop} {w : World} {a : Option Addr} {m cap : Nat} {xs : List α} {y : α} (h : OwnS R e sz Pb Pe w (.slice a m cap) (xs ++ [y])) (hm : m = xs.length + 1) : OwnS R e sz Pb Pe w (.slice a xs.length cap) xs := by
  subst hm
  obtain ⟨g, cap', e, _⟩ := h.blk (by simp)
  simp only [Value.slice.injEq] at e
  have h2 := h.take (m := xs.length) (by simp) rfl (fun e2 => by rw [e2] at e; cases e.1)
  rwa [List.take_left] at h2
theorem TrL.own {lo : Nat} {lab : Lb} {w : World} {a : Option Addr} {cap : Nat} {t : List Nd} {pvs : List Sl} (h : TrL lo lab w a cap t pvs) : TrOwn lo lab w (.slice a t.length cap) t pvs := by
  have hzl : (t.zip pvs).length = t.length := by simp [h.len]
  refine ⟨h.len, h.low, ?_, fun i x pv hx hp => ?_⟩
  · have := own_short h.arr (by rw [hzl])
    rwa [hzl] at this
  · obtain ⟨pa, pc, rfl, o⟩ := h.pr i x pv hx hp
    exact own_short o rfl
set_option maxHeartbeats 8000000 in
set_option maxRecDepth 8000 in
theorem lent_spec {Pt : Nat → Prop} {w : World} {v : Value} {t : List Nd} (h : RdS rNd 3 Pt w v t) (hz : Sz t) :
    Calls Tryd.prog 12 #[v] w (Ret fun r w' => ∃ lab a cap pvs, r = .slice a t.length cap ∧ TrL w.heap.size lab w' a cap t pvs ∧ New w w') := by
  replace h := h.mono monoNd (Pb' := fun b => b < w.heap.size) fun b hb _ => hb
  obtain ⟨ta, tc, rfl, htc1, htc2⟩ := h.form
  have hzl := hz.len
  refine calls_of_Wc Tryd.func12 rfl Tryd.ntmps12 rfl ?_
  (repeat' (first | refine Wl.assignE (by conv => { lhs; whnf }) ?_ | refine Wl.nil ?_ | refine Qseq.normal ?_ | refine Wc.seq ?_ | refine Wc.region ?_ | refine Wc.block ?_))
  refine Wc.loop (σ := Nat × Value × Lb × List Sl) (fun s => [(0, .slice ta t.length tc), (3, s.2.1), (4, vi s.1)])
    (fun s w' => s.1 ≤ t.length ∧ TrM w.heap.size s.2.2.1 w' s.2.1 (t.take s.1) s.2.2.2 ∧ New w w') (fun s => t.length - s.1) (0, .slice none 0 0, fun _ => none, []) ⟨rfl, rfl, rfl, trivial⟩ ⟨Nat.zero_le _, TrM.nil, Chg.refl _ _⟩ ?_
  rintro ⟨i, vo, lab, pvs⟩ G w1 ⟨hi, to1, n1⟩
  dsimp only at hi to1 n1
  have sz1 := n1.size
  simp only [upds]
  (repeat' (first | refine Wl.moveE (by conv => { lhs; whnf }) ?_ | refine Wl.nil ?_ | refine Wl.lenS rfl ?_ | refine Qseq.normal ?_ | refine Wc.seq ?_ | refine Wc.region ?_ | refine Wc.block ?_ | refine Wc.skip ?_ | refine Wc.exit ?_ | refine Qseq.exit ?_ | refine Qblk.hit ?_ | refine Qloop.exit ?_ | refine Wc.condT rfl ?_ | refine Wc.condF rfl ?_ | refine Wl.lss rfl rfl (fun _ => ?_) (fun _ => ?_)))
  · obtain ⟨x, hx⟩ := get_lt t (k := i) (by omega)
    have hxm := List.mem_of_getElem? hx
    have hpz := hz.pl x hxm
    refine Wl.idxAddr (h.keep stableNd n1.keep) rfl rfl (by omega) hx fun b o cs hl hR hat => ?_
    obtain ⟨xv, rfl, hpr⟩ := hR
    obtain ⟨xa, xc, rfl, hxc1, hxc2⟩ := hpr.form
    refine Wl.loadAt hat rfl rfl ?_
    clear hat
    refine Wl.alloc fun w2 b2 n2 s2 => ?_
    refine Wl.storeB (new := [vi x.parent, vs x.name, .slice xa x.props.length xc]) b2 rfl rfl rfl rfl (show (3 : Nat) ≤ 3 from Nat.le_refl 3) (by intro c hc; simp at hc; rcases hc with rfl | rfl | rfl <;> rfl) fun w4 b4 c4 s4 => ?_
    replace b4 : Bk w4 w1.heap.size tNd [vi x.parent, vs x.name, .slice xa x.props.length xc] := b4
    have n14 : New w1 w4 := Chg.trans n2 c4 fun k hk e => by omega
    have hb4 : ∀ w', New w4 w' → Bk w' w1.heap.size tNd [vi x.parent, vs x.name, .slice xa x.props.length xc] := fun w' hw => b4.chg hw id
    have hdk : ∀ w', New w4 w' → RdS rPr 2 (fun b => b < w.heap.size) w' (.slice xa x.props.length xc) x.props := fun w' hw => hpr.keep (stable_flat pC) (New.trans n14 hw).keep
    have to4 := to1.new n14
    have n04 := New.trans n1 n14
    clear b2 c4 n2
    (repeat' (first | refine Wl.nil ?_ | refine Qseq.normal ?_ | refine Wc.seq ?_))
    refine Wc.post (fun F w10 => ∃ (da : Option Addr) (dc : Nat) (w9 : World), agrees F [(0, .slice ta t.length tc), (3, vo), (4, vi i), (5, ptrB w1.heap.size)] ∧ OwnPr (fun b => w4.heap.size ≤ b) w9 (.slice da (x.props.length + 1) dc) (x.props ++ [mkP]) ∧ New w4 w9 ∧
      Bk w10 w1.heap.size tNd [vi x.parent, vs x.name, .slice da x.props.length dc] ∧ Chg (fun k => k = w1.heap.size) w9 w10) ?_ ?_
    · refine Wc.regionG (m := 13) rfl (by kernel_rfl) (New w4) (Chg.drew _ _) rfl ?_
      intro w5 nC
      have zC := nC.size
      (repeat' (refine Wg.quiet rfl rfl rfl (Wq.fieldAddr rfl rfl (Wq.nil ?_))))
      refine Wg.quiet rfl rfl rfl (Wq.load1 rfl (fun w' hw => (hb4 w' hw).cell (o := 2) rfl) (Wq.nil ?_))
      (repeat' (refine Wg.quiet rfl rfl rfl (Wq.fieldAddr rfl rfl (Wq.nil ?_))))
      refine Wg.quiet rfl rfl rfl (Wq.load1 rfl (fun w' hw => (hb4 w' hw).cell (o := 2) rfl) (Wq.nil ?_))
      (repeat' (refine Wg.quiet rfl rfl rfl (Wq.lenS rfl (Wq.nil ?_))))
      refine Wg.two rfl rfl rfl rfl rfl rfl rfl rfl (Wl.buildSliceE fun w20 hg n20 => Wl.nil ⟨rfl, New.trans nC n20, ?_⟩) (Wl.buildF (ps := [(0, .const (vs [33]))]) (parts := [(0, vs [33])]) rfl rfl (by simp [Value.cells]) (Wl.nil ⟨rfl, nC, ?_⟩))
      · have hgl := heap_lt hg
        have nC := New.trans nC n20
        have zC := nC.size
        refine Wg.two rfl rfl rfl rfl rfl rfl rfl rfl (Wl.appendZ (Pe := No) goodPr hg (hdk _ nC) (fun y cs hy => hy) rfl rfl (by omega) (by simp only [maxLen]; omega) (by omega) fun dv21 w21 oD n21 => Wl.nil ⟨rfl, New.trans nC n21, ?_⟩) (Wl.buildF (ps := [(0, .const (vs [33]))]) (parts := [(0, vs [33])]) rfl rfl (by simp [Value.cells]) (Wl.nil ⟨rfl, nC, ?_⟩))
        · have nC := New.trans nC n21
          have zC := nC.size
          refine Wg.one rfl rfl rfl rfl rfl (Wl.buildF (ps := [(0, .const (vs [33]))]) (parts := [(0, vs [33])]) rfl rfl (by simp [Value.cells]) (Wl.nil ⟨rfl, nC, ?_⟩))
          refine Wg.one rfl rfl rfl rfl rfl (Wl.buildSlice1 (R := rPr) (y := mkP) (Pe := No) goodPr rfl rfl rfl rfl (by omega) (by omega) fun mv w23 oM n23 s23 hob23 => Wl.nil ⟨rfl, New.trans nC n23, ?_⟩)
          replace oD := oD.new plainPr n23
          have nC := New.trans nC n23
          have zC := nC.size
          refine Wg.one rfl rfl rfl rfl rfl (Wl.appendAll (R := rPr) (Pe := No) goodPr oD (oM.rd (mono_flat pC)) (fun y cs hy => hy) rfl rfl (by omega) (by simp only [maxLen, List.length_singleton]; omega) (by simp only [List.length_singleton]; omega) fun dv9 w9 o9 c9 lie9 _ => ?_)
          have n49 : New w4 w9 := Chg.trans nC c9 (fun b hb e => by have := (oD.lt e).1; omega)
          refine Wl.nil ⟨rfl, n49, ?_⟩
          obtain ⟨da, dc, rfl, hdc, _⟩ := o9.form
          rw [List.length_append, List.length_singleton] at hdc o9 ⊢
          refine Wg.quiet rfl rfl rfl (Wq.sliceToP (b := x.props.length) rfl rfl (by omega) (Wq.nil ?_))
          (repeat' (refine Wg.quiet rfl rfl rfl (Wq.fieldAddr rfl rfl (Wq.nil ?_))))
          refine Wg.last rfl rfl rfl rfl (Wl.store1 (hb4 w9 n49) rfl (show (2 : Nat) < 3 by omega) rfl rfl fun w10 b10 c10 => ?_)
          exact Wl.nil ⟨rfl, da, dc, w9, ⟨rfl, rfl, rfl, rfl, trivial⟩, o9.mono (mono_flat pC) (fun b hb e => by rcases e with e | e <;> omega) (fun _ _ e => e), n49, b10, c10⟩
        · refine Wg.two rfl rfl rfl rfl rfl rfl rfl rfl (Wl.appendZ (Pe := No) goodPr hg (hdk _ nC) (fun y cs hy => hy) rfl rfl (by omega) (by simp only [maxLen]; omega) (by omega) fun dv22 w22 oD n22 => Wl.nil ⟨rfl, New.trans nC n22, ?_⟩) (Wl.buildSlice1 (R := rPr) (y := mkP) (Pe := No) goodPr rfl rfl rfl rfl (by omega) (by omega) fun mv w22 oM n22 s22 hob22 => Wl.nil ⟨rfl, New.trans nC n22, ?_⟩)
          · have nC := New.trans nC n22
            have zC := nC.size
            refine Wg.one rfl rfl rfl rfl rfl (Wl.buildSlice1 (R := rPr) (y := mkP) (Pe := No) goodPr rfl rfl rfl rfl (by omega) (by omega) fun mv w23 oM n23 s23 hob23 => Wl.nil ⟨rfl, New.trans nC n23, ?_⟩)
            replace oD := oD.new plainPr n23
            have nC := New.trans nC n23
            have zC := nC.size
            refine Wg.one rfl rfl rfl rfl rfl (Wl.appendAll (R := rPr) (Pe := No) goodPr oD (oM.rd (mono_flat pC)) (fun y cs hy => hy) rfl rfl (by omega) (by simp only [maxLen, List.length_singleton]; omega) (by simp only [List.length_singleton]; omega) fun dv9 w9 o9 c9 lie9 _ => ?_)
            have n49 : New w4 w9 := Chg.trans nC c9 (fun b hb e => by have := (oD.lt e).1; omega)
            refine Wl.nil ⟨rfl, n49, ?_⟩
            obtain ⟨da, dc, rfl, hdc, _⟩ := o9.form
            rw [List.length_append, List.length_singleton] at hdc o9 ⊢
            refine Wg.quiet rfl rfl rfl (Wq.sliceToP (b := x.props.length) rfl rfl (by omega) (Wq.nil ?_))
            (repeat' (refine Wg.quiet rfl rfl rfl (Wq.fieldAddr rfl rfl (Wq.nil ?_))))
            refine Wg.last rfl rfl rfl rfl (Wl.store1 (hb4 w9 n49) rfl (show (2 : Nat) < 3 by omega) rfl rfl fun w10 b10 c10 => ?_)
            exact Wl.nil ⟨rfl, da, dc, w9, ⟨rfl, rfl, rfl, rfl, trivial⟩, o9.mono (mono_flat pC) (fun b hb e => by rcases e with e | e <;> omega) (fun _ _ e => e), n49, b10, c10⟩
          · replace hg := (n22.block _ (by have := heap_lt hg; omega) id).trans hg
            have nC := New.trans nC n22
            have zC := nC.size
            refine Wg.one rfl rfl rfl rfl rfl (Wl.appendZ (Pe := No) goodPr hg (hdk _ nC) (fun y cs hy => hy) rfl rfl (by omega) (by simp only [maxLen]; omega) (by omega) fun dv23 w23 oD n23 => Wl.nil ⟨rfl, New.trans nC n23, ?_⟩)
            replace oM := oM.new plainPr n23
            have nC := New.trans nC n23
            have zC := nC.size
            refine Wg.one rfl rfl rfl rfl rfl (Wl.appendAll (R := rPr) (Pe := No) goodPr oD (oM.rd (mono_flat pC)) (fun y cs hy => hy) rfl rfl (by omega) (by simp only [maxLen, List.length_singleton]; omega) (by simp only [List.length_singleton]; omega) fun dv9 w9 o9 c9 lie9 _ => ?_)
            have n49 : New w4 w9 := Chg.trans nC c9 (fun b hb e => by have := (oD.lt e).1; omega)
            refine Wl.nil ⟨rfl, n49, ?_⟩
            obtain ⟨da, dc, rfl, hdc, _⟩ := o9.form
            rw [List.length_append, List.length_singleton] at hdc o9 ⊢
            refine Wg.quiet rfl rfl rfl (Wq.sliceToP (b := x.props.length) rfl rfl (by omega) (Wq.nil ?_))
            (repeat' (refine Wg.quiet rfl rfl rfl (Wq.fieldAddr rfl rfl (Wq.nil ?_))))
            refine Wg.last rfl rfl rfl rfl (Wl.store1 (hb4 w9 n49) rfl (show (2 : Nat) < 3 by omega) rfl rfl fun w10 b10 c10 => ?_)
            exact Wl.nil ⟨rfl, da, dc, w9, ⟨rfl, rfl, rfl, rfl, trivial⟩, o9.mono (mono_flat pC) (fun b hb e => by rcases e with e | e <;> omega) (fun _ _ e => e), n49, b10, c10⟩
      · refine Wg.two rfl rfl rfl rfl rfl rfl rfl rfl (Wl.buildSliceE fun w21 hg n21 => Wl.nil ⟨rfl, New.trans nC n21, ?_⟩) (Wl.buildSlice1 (R := rPr) (y := mkP) (Pe := No) goodPr rfl rfl rfl rfl (by omega) (by omega) fun mv w21 oM n21 s21 hob21 => Wl.nil ⟨rfl, New.trans nC n21, ?_⟩)
        · have hgl := heap_lt hg
          have nC := New.trans nC n21
          have zC := nC.size
          refine Wg.two rfl rfl rfl rfl rfl rfl rfl rfl (Wl.appendZ (Pe := No) goodPr hg (hdk _ nC) (fun y cs hy => hy) rfl rfl (by omega) (by simp only [maxLen]; omega) (by omega) fun dv22 w22 oD n22 => Wl.nil ⟨rfl, New.trans nC n22, ?_⟩) (Wl.buildSlice1 (R := rPr) (y := mkP) (Pe := No) goodPr rfl rfl rfl rfl (by omega) (by omega) fun mv w22 oM n22 s22 hob22 => Wl.nil ⟨rfl, New.trans nC n22, ?_⟩)
          · have nC := New.trans nC n22
            have zC := nC.size
            refine Wg.one rfl rfl rfl rfl rfl (Wl.buildSlice1 (R := rPr) (y := mkP) (Pe := No) goodPr rfl rfl rfl rfl (by omega) (by omega) fun mv w23 oM n23 s23 hob23 => Wl.nil ⟨rfl, New.trans nC n23, ?_⟩)
            replace oD := oD.new plainPr n23
            have nC := New.trans nC n23
            have zC := nC.size
            refine Wg.one rfl rfl rfl rfl rfl (Wl.appendAll (R := rPr) (Pe := No) goodPr oD (oM.rd (mono_flat pC)) (fun y cs hy => hy) rfl rfl (by omega) (by simp only [maxLen, List.length_singleton]; omega) (by simp only [List.length_singleton]; omega) fun dv9 w9 o9 c9 lie9 _ => ?_)
            have n49 : New w4 w9 := Chg.trans nC c9 (fun b hb e => by have := (oD.lt e).1; omega)
            refine Wl.nil ⟨rfl, n49, ?_⟩
            obtain ⟨da, dc, rfl, hdc, _⟩ := o9.form
            rw [List.length_append, List.length_singleton] at hdc o9 ⊢
            refine Wg.quiet rfl rfl rfl (Wq.sliceToP (b := x.props.length) rfl rfl (by omega) (Wq.nil ?_))
            (repeat' (refine Wg.quiet rfl rfl rfl (Wq.fieldAddr rfl rfl (Wq.nil ?_))))
            refine Wg.last rfl rfl rfl rfl (Wl.store1 (hb4 w9 n49) rfl (show (2 : Nat) < 3 by omega) rfl rfl fun w10 b10 c10 => ?_)
            exact Wl.nil ⟨rfl, da, dc, w9, ⟨rfl, rfl, rfl, rfl, trivial⟩, o9.mono (mono_flat pC) (fun b hb e => by rcases e with e | e <;> omega) (fun _ _ e => e), n49, b10, c10⟩
          · replace hg := (n22.block _ (by have := heap_lt hg; omega) id).trans hg
            have nC := New.trans nC n22
            have zC := nC.size
            refine Wg.one rfl rfl rfl rfl rfl (Wl.appendZ (Pe := No) goodPr hg (hdk _ nC) (fun y cs hy => hy) rfl rfl (by omega) (by simp only [maxLen]; omega) (by omega) fun dv23 w23 oD n23 => Wl.nil ⟨rfl, New.trans nC n23, ?_⟩)
            replace oM := oM.new plainPr n23
            have nC := New.trans nC n23
            have zC := nC.size
            refine Wg.one rfl rfl rfl rfl rfl (Wl.appendAll (R := rPr) (Pe := No) goodPr oD (oM.rd (mono_flat pC)) (fun y cs hy => hy) rfl rfl (by omega) (by simp only [maxLen, List.length_singleton]; omega) (by simp only [List.length_singleton]; omega) fun dv9 w9 o9 c9 lie9 _ => ?_)
            have n49 : New w4 w9 := Chg.trans nC c9 (fun b hb e => by have := (oD.lt e).1; omega)
            refine Wl.nil ⟨rfl, n49, ?_⟩
            obtain ⟨da, dc, rfl, hdc, _⟩ := o9.form
            rw [List.length_append, List.length_singleton] at hdc o9 ⊢
            refine Wg.quiet rfl rfl rfl (Wq.sliceToP (b := x.props.length) rfl rfl (by omega) (Wq.nil ?_))
            (repeat' (refine Wg.quiet rfl rfl rfl (Wq.fieldAddr rfl rfl (Wq.nil ?_))))
            refine Wg.last rfl rfl rfl rfl (Wl.store1 (hb4 w9 n49) rfl (show (2 : Nat) < 3 by omega) rfl rfl fun w10 b10 c10 => ?_)
            exact Wl.nil ⟨rfl, da, dc, w9, ⟨rfl, rfl, rfl, rfl, trivial⟩, o9.mono (mono_flat pC) (fun b hb e => by rcases e with e | e <;> omega) (fun _ _ e => e), n49, b10, c10⟩
        · have nC := New.trans nC n21
          have zC := nC.size
          refine Wg.one rfl rfl rfl rfl rfl (Wl.buildSliceE fun w22 hg n22 => Wl.nil ⟨rfl, New.trans nC n22, ?_⟩)
          have hgl := heap_lt hg
          replace oM := oM.new plainPr n22
          have nC := New.trans nC n22
          have zC := nC.size
          refine Wg.one rfl rfl rfl rfl rfl (Wl.appendZ (Pe := No) goodPr hg (hdk _ nC) (fun y cs hy => hy) rfl rfl (by omega) (by simp only [maxLen]; omega) (by omega) fun dv23 w23 oD n23 => Wl.nil ⟨rfl, New.trans nC n23, ?_⟩)
          replace oM := oM.new plainPr n23
          have nC := New.trans nC n23
          have zC := nC.size
          refine Wg.one rfl rfl rfl rfl rfl (Wl.appendAll (R := rPr) (Pe := No) goodPr oD (oM.rd (mono_flat pC)) (fun y cs hy => hy) rfl rfl (by omega) (by simp only [maxLen, List.length_singleton]; omega) (by simp only [List.length_singleton]; omega) fun dv9 w9 o9 c9 lie9 _ => ?_)
          have n49 : New w4 w9 := Chg.trans nC c9 (fun b hb e => by have := (oD.lt e).1; omega)
          refine Wl.nil ⟨rfl, n49, ?_⟩
          obtain ⟨da, dc, rfl, hdc, _⟩ := o9.form
          rw [List.length_append, List.length_singleton] at hdc o9 ⊢
          refine Wg.quiet rfl rfl rfl (Wq.sliceToP (b := x.props.length) rfl rfl (by omega) (Wq.nil ?_))
          (repeat' (refine Wg.quiet rfl rfl rfl (Wq.fieldAddr rfl rfl (Wq.nil ?_))))
          refine Wg.last rfl rfl rfl rfl (Wl.store1 (hb4 w9 n49) rfl (show (2 : Nat) < 3 by omega) rfl rfl fun w10 b10 c10 => ?_)
          exact Wl.nil ⟨rfl, da, dc, w9, ⟨rfl, rfl, rfl, rfl, trivial⟩, o9.mono (mono_flat pC) (fun b hb e => by rcases e with e | e <;> omega) (fun _ _ e => e), n49, b10, c10⟩
    · rintro F w10 ⟨da, dc, w9, hF, o9, n9, b10, c10⟩
      refine Qseq.normal ?_
      refine Wc.frame _ hF fun G2 => ?_
      simp only [upds]
      have z9 := n9.size
      have z10 := c10.size
      have o10 := o9.chg plainPr c10 fun b hb e => by have := (o9.lt hb).1; omega
      have n410 : New w1 w10 := Chg.trans (New.trans n14 n9) c10 fun k hk e => by omega
      have to10 := to1.new n410
      have hzz : ((t.take i).zip pvs).length = i := by simp [to1.len]; omega
      (repeat' (first | refine Wl.moveE (by conv => { lhs; whnf }) ?_ | refine Wc.region ?_))
      refine Wl.loadB b10 rfl rfl ?_
      refine Wl.buildSlice1 (R := flat ndV) (y := (x, (da, x.props.length, dc))) (Pe := No) goodNdV rfl rfl rfl rfl (by omega) (by omega) fun vt w11 ot n11 s11 hobt => ?_
      refine Wl.appendAll goodNdV (to10.arr.new (plain_flat ndV) n11) (ot.rd (mono_flat ndV)) (fun y cs hy => hy) rfl rfl (by omega) (by rw [hzz]; simp only [maxLen, List.length_singleton]; omega) (by rw [hzz]; simp only [List.length_singleton]; omega) fun vo' w12 o12 c12 lie _ => ?_
      have z11 := n11.size
      have n111 : New w1 w11 := New.trans n410 n11
      obtain ⟨lab', to12⟩ := to1.snoc (x := x) (pv := (da, x.props.length, dc)) (w2 := w11) (w3 := w12) sz1 n111 ⟨da, dc, rfl, (o10.new plainPr n11).mono (mono_flat pC) (fun b hb e => by omega) fun _ _ e => e⟩ o12 c12
      rw [← take_snoc hx] at to12
      have n12 : New w w12 := Chg.trans (New.trans n1 n111) c12 fun b hb e => by have h1 := (to1.arr.lt e).1; have := (to1.low b _ h1).1; omega
      (repeat' (first | refine Wl.moveE (by conv => { lhs; whnf }) ?_ | refine Wl.assignE (by conv => { lhs; whnf }) ?_ | refine Wl.nil ?_ | refine Qseq.normal ?_ | refine Wc.region ?_ | refine Qblk.normal ?_ | refine Wl.add rfl rfl (by omega) (by omega) ?_))
      exact Qloop.normal (i + 1, vo', lab', pvs ++ [(da, x.props.length, dc)]) ⟨rfl, rfl, rfl, trivial⟩ ⟨by dsimp only; omega, to12, n12⟩ (by dsimp only; omega)
  · have e : i = t.length := by omega
    subst e
    rw [List.take_length] at to1
    have hzz : (t.zip pvs).length = t.length := by simp [to1.len]
    refine Wl.buildF (ps := [(0, .const (vi (-9)))]) (parts := [(0, vi (-9))]) rfl rfl (by simp [Value.cells]) ?_
    refine Wl.buildSlice1 (R := flat ndV) (y := mkN) (Pe := No) goodNdV rfl rfl rfl rfl (by omega) (by omega) fun vt w11 ot n11 s11 hobt => ?_
    refine Wl.appendAll goodNdV (to1.arr.new (plain_flat ndV) n11) (ot.rd (mono_flat ndV)) (fun y cs hy => hy) rfl rfl (by omega) (by rw [hzz]; simp only [maxLen, List.length_singleton]; omega) (by rw [hzz]; simp only [List.length_singleton]; omega) fun vo' w12 o12 c12 lie _ => ?_
    obtain ⟨qa, qc, rfl, hq1, hq2⟩ := o12.form
    rw [List.length_append, List.length_singleton, hzz] at hq1 o12 ⊢
    (repeat' (first | refine Wl.moveE (by conv => { lhs; whnf }) ?_ | refine Wl.assignE (by conv => { lhs; whnf }) ?_ | refine Wl.nil ?_ | refine Wl.lenS rfl ?_ | refine Qseq.normal ?_ | refine Wc.seq ?_ | refine Wc.region ?_))
    refine Wl.sliceToP (b := t.length) rfl rfl (by omega) ?_
    (repeat' (first | refine Wl.assignE (by conv => { lhs; whnf }) ?_ | refine Wl.nil ?_ | refine Qseq.normal ?_ | refine Wc.ret ?_))
    have to11 := to1.new n11
    have s11 := n11.size
    have s12 := c12.size
    have hob : ∀ b, vo.ownBlock = some b → lab b = some 0 := fun b e => (to1.arr.lt e).1
    let lb' : Lb := fun b => if b < w11.heap.size then lab b else if b < w12.heap.size then some 0 else none
    have hold : ∀ b c, lab b = some c → lb' b = some c := fun b c e => by
      show (if b < w11.heap.size then lab b else _) = _
      rw [if_pos (to11.low b c e).2]; exact e
    refine Qfn.ret1 rfl rfl ⟨_, rfl, lb', qa, qc, pvs, rfl, ⟨to1.len, fun b c e => ?_, o12.reblk fun b hb e => ?_, fun j y pw hy hw => ?_⟩, Chg.trans (New.trans n1 n11) c12 fun b hb e => by have := (to1.low b _ (hob b e)).1; omega⟩
    · by_cases hb : b < w11.heap.size
      · rw [show lb' b = lab b from if_pos hb] at e
        have := to11.low b c e; omega
      · have e' : (if b < w12.heap.size then some 0 else none) = some c := by rw [← e]; exact (if_neg hb).symm
        split at e'
        · omega
        · cases e'
    · rcases e with e | e
      · exact hold b _ e
      · have hb3 := (o12.lt hb).2
        show (if b < w11.heap.size then lab b else if b < w12.heap.size then some 0 else none) = _
        rw [if_neg (by omega), if_pos hb3]
    · obtain ⟨pa', pc', e1, o5⟩ := to11.pr j y pw hy hw
      refine ⟨pa', pc', e1, ?_⟩
      have h5 := o5.chg plainPr c12 (fun b e1 e2 => by have h6 := (o5.lt e1).1; rw [hob b e2] at h6; cases h6)
      exact h5.reblk fun b _ e => hold b _ e
end Go.Proofs.YtlkhajheecglgaaDoor

namespace Go.Proofs.YtlkhajheecglgaaDoor
open Go Wk Go.ChangeShapes

theorem cInt : Tryd.prog.cellsOf 3 = 1 := by kernel_rfl
theorem cStr : Tryd.prog.cellsOf 9 = 1 := by kernel_rfl
theorem cPrs : Tryd.prog.cellsOf 37 = 1 := by kernel_rfl
theorem cNds : Tryd.prog.cellsOf 22 = 1 := by kernel_rfl
theorem cPr : Tryd.prog.cellsOf 41 = 2 := by kernel_rfl
theorem cNd : Tryd.prog.cellsOf 39 = 3 := by kernel_rfl
theorem cTwo : Tryd.prog.cellsOf 53 = 4 := by kernel_rfl

theorem len2 {α : Type} {l : List α} (h : l.length = 2) : ∃ a b, l = [a, b] := by
  match l, h with
  | [a, b], _ => exact ⟨a, b, rfl⟩
theorem len3 {α : Type} {l : List α} (h : l.length = 3) : ∃ a b c, l = [a, b, c] := by
  match l, h with
  | [a, b, c], _ => exact ⟨a, b, c, rfl⟩
def datPr : Dat Pr := fun H x d => ∃ d0 d1, d = .agg [d0, d1] ∧ datStr H x.1 d0 ∧ datStr H x.2 d1
def datNd : Dat Nd := fun H x d => ∃ d0 d1 d2, d = .agg [d0, d1, d2] ∧ datInt .i64 H x.parent d0 ∧ datStr H x.name d1 ∧ datSl datPr H x.props d2
theorem opens_pr : Opens Tryd.prog 41 rPr datPr := by
  intro H enc w fuel cs d ps h
  obtain ⟨xs, n, rfl, hx, hl, hlen, hf⟩ := DataW.trod_struct Tryd.underlying41 h
  rw [cPr] at hl
  obtain ⟨c0, c1, rfl⟩ := len2 hl
  obtain ⟨y0, y1, rfl⟩ := len2 (show xs.length = 2 from hlen)
  have e0 : DataW.trod enc Tryd.prog w 0 (fun _ => true) true n 9 (([c0, c1].drop 0).take (Tryd.prog.cellsOf 9)) = some y0 := hf 0 _ rfl
  rw [cStr] at e0
  have e1 : DataW.trod enc Tryd.prog w 0 (fun _ => true) true n 9 (([c0, c1].drop 1).take (Tryd.prog.cellsOf 9)) = some y1 := hf 1 _ rfl
  rw [cStr] at e1
  cases hx
  obtain ⟨s0, r0, q0⟩ := opens_str Tryd.underlying9 H enc w n _ _ _ e0
  obtain ⟨s1, r1, q1⟩ := opens_str Tryd.underlying9 H enc w n _ _ _ e1
  have r0' : [c0] = [vs s0] := r0 (fun _ => True) (fun _ _ => trivial)
  have r1' : [c1] = [vs s1] := r1 (fun _ => True) (fun _ _ => trivial)
  cases r0'
  cases r1'
  exact ⟨(s0, s1), fun _ _ => rfl, _, _, rfl, q0, q1⟩
theorem opens_prs : Opens Tryd.prog 37 (rSl rPr 2) (datSl datPr) := opens_slice Tryd.underlying37 cPr (by decide) opens_pr
theorem opens_nd : Opens Tryd.prog 39 rNd datNd := by
  intro H enc w fuel cs d ps h
  obtain ⟨xs, n, rfl, hx, hl, hlen, hf⟩ := DataW.trod_struct Tryd.underlying39 h
  rw [cNd] at hl
  obtain ⟨c0, c1, c2, rfl⟩ := len3 hl
  obtain ⟨y0, y1, y2, rfl⟩ := len3 (show xs.length = 3 from hlen)
  have e0 : DataW.trod enc Tryd.prog w 0 (fun _ => true) true n 3 (([c0, c1, c2].drop 0).take (Tryd.prog.cellsOf 3)) = some y0 := hf 0 _ rfl
  rw [cInt] at e0
  have e1 : DataW.trod enc Tryd.prog w 0 (fun _ => true) true n 9 (([c0, c1, c2].drop 1).take (Tryd.prog.cellsOf 9)) = some y1 := hf 1 _ rfl
  rw [cStr] at e1
  have e2 : DataW.trod enc Tryd.prog w 0 (fun _ => true) true n 37 (([c0, c1, c2].drop 2).take (Tryd.prog.cellsOf 37)) = some y2 := hf 2 _ rfl
  rw [cPrs] at e2
  cases hx
  obtain ⟨s0, r0, q0⟩ := opens_int Tryd.underlying3 H enc w n _ _ _ e0
  obtain ⟨s1, r1, q1⟩ := opens_str Tryd.underlying9 H enc w n _ _ _ e1
  obtain ⟨s2, r2, q2⟩ := opens_prs H enc w n _ _ _ e2
  have r0' : [c0] = [vi s0] := r0 (fun _ => True) (fun _ _ => trivial)
  have r1' : [c1] = [vs s1] := r1 (fun _ => True) (fun _ _ => trivial)
  cases r0'
  cases r1'
  refine ⟨⟨s0, s1, s2⟩, fun Pb hP => ?_, _, _, _, rfl, q0, q1, q2⟩
  obtain ⟨v, hv, hr⟩ := r2 Pb fun p hp => hP p (by simp; exact .inr (.inr hp))
  have hv' : [c2] = [v] := hv
  cases hv'
  exact ⟨c2, rfl, hr⟩
theorem opens_nds : Opens Tryd.prog 22 (rSl rNd 3) (datSl datNd) := opens_slice Tryd.underlying22 cNd (by decide) opens_nd

theorem len4 {α : Type} {l : List α} (h : l.length = 4) : ∃ a b c d, l = [a, b, c, d] := by
  match l, h with
  | [a, b, c, d], _ => exact ⟨a, b, c, d, rfl⟩
structure Tw where
  one : List Nd
  other : List Nd
  cut : Int
  more : List UInt8
def datTw : Dat Tw := fun H x d => ∃ d0 d1 d2 d3, d = .agg [d0, d1, d2, d3] ∧ datSl datNd H x.one d0 ∧ datSl datNd H x.other d1 ∧ datInt .i64 H x.cut d2 ∧ datStr H x.more d3
def rTw : Rel Tw := fun Pb w x cs => ∃ v0 v1, cs = [v0, v1, vi x.cut, vs x.more] ∧ RdS rNd 3 Pb w v0 x.one ∧ RdS rNd 3 Pb w v1 x.other
theorem opens_tw : Opens Tryd.prog 53 rTw datTw := by
  intro H enc w fuel cs d ps h
  obtain ⟨xs, n, rfl, hx, hl, hlen, hf⟩ := DataW.trod_struct Tryd.underlying53 h
  rw [cTwo] at hl
  obtain ⟨c0, c1, c2, c3, rfl⟩ := len4 hl
  obtain ⟨y0, y1, y2, y3, rfl⟩ := len4 (show xs.length = 4 from hlen)
  have e0 : DataW.trod enc Tryd.prog w 0 (fun _ => true) true n 22 (([c0, c1, c2, c3].drop 0).take (Tryd.prog.cellsOf 22)) = some y0 := hf 0 _ rfl
  rw [cNds] at e0
  have e1 : DataW.trod enc Tryd.prog w 0 (fun _ => true) true n 22 (([c0, c1, c2, c3].drop 1).take (Tryd.prog.cellsOf 22)) = some y1 := hf 1 _ rfl
  rw [cNds] at e1
  have e2 : DataW.trod enc Tryd.prog w 0 (fun _ => true) true n 3 (([c0, c1, c2, c3].drop 2).take (Tryd.prog.cellsOf 3)) = some y2 := hf 2 _ rfl
  rw [cInt] at e2
  have e3 : DataW.trod enc Tryd.prog w 0 (fun _ => true) true n 9 (([c0, c1, c2, c3].drop 3).take (Tryd.prog.cellsOf 9)) = some y3 := hf 3 _ rfl
  rw [cStr] at e3
  cases hx
  obtain ⟨s0, r0, q0⟩ := opens_nds H enc w n _ _ _ e0
  obtain ⟨s1, r1, q1⟩ := opens_nds H enc w n _ _ _ e1
  obtain ⟨s2, r2, q2⟩ := opens_int Tryd.underlying3 H enc w n _ _ _ e2
  obtain ⟨s3, r3, q3⟩ := opens_str Tryd.underlying9 H enc w n _ _ _ e3
  have r2' : [c2] = [vi s2] := r2 (fun _ => True) (fun _ _ => trivial)
  have r3' : [c3] = [vs s3] := r3 (fun _ => True) (fun _ _ => trivial)
  cases r2'
  cases r3'
  refine ⟨⟨s0, s1, s2, s3⟩, fun Pb hP => ?_, _, _, _, _, rfl, q0, q1, q2, q3⟩
  obtain ⟨v0, hv0, hr0⟩ := r0 Pb fun p hp => hP p (by simp; exact .inl hp)
  obtain ⟨v1, hv1, hr1⟩ := r1 Pb fun p hp => hP p (by simp; exact .inr (.inl hp))
  have hv0' : [c0] = [v0] := hv0
  have hv1' : [c1] = [v1] := hv1
  cases hv0'
  cases hv1'
  exact ⟨c0, c1, rfl, hr0, hr1⟩
/-! Sizes. -/
def Wok {H : Type} (t : TypeId) (d : DataW H) : Prop := ∀ n ∈ d.weights Tryd.prog t, n ≤ reachBytes
theorem wAll_mem {H : Type} {P : Program} {e : TypeId} : ∀ {ds : List (DataW H)} {i : Nat} {d : DataW H}, ds[i]? = some d → ∀ n ∈ d.weights P e, n ∈ DataW.weightsAll P e ds
  | d0 :: ds, 0, d, h, n, hn => by
    simp only [List.getElem?_cons_zero, Option.some.injEq] at h
    subst h
    simp only [DataW.weightsAll, List.mem_append]
    exact .inl hn
  | d0 :: ds, i + 1, d, h, n, hn => by
    simp only [List.getElem?_cons_succ] at h
    simp only [DataW.weightsAll, List.mem_append]
    exact .inr (wAll_mem h n hn)
  | [], _, _, h, _, _ => by simp at h
theorem wok_str {H : Type} {t : TypeId} {x : List UInt8} {d : DataW H} (h : datStr H x d) (hw : Wok t d) : x.length ≤ reachBytes := by
  obtain ⟨rfl, _⟩ := h
  exact hw _ (by simp [DataW.weights])
theorem wok_sl {H : Type} {α : Type} {D : Dat α} {t e : TypeId} {xs : List α} {d : DataW H} (ht : Tryd.prog.underlying t = some (.slice e)) (h : datSl D H xs d) (hw : Wok t d) :
    xs.length * Tryd.prog.bytesOf e ≤ reachBytes ∧ ∀ x ∈ xs, ∃ y, D H x y ∧ Wok e y := by
  rcases h with ⟨rfl, rfl⟩ | ⟨es, sp, rfl, hl, hd⟩
  · exact ⟨by simp, fun x hx => by simp at hx⟩
  · have hd' : ∀ n, n = (es.length + sp.length) * Tryd.prog.bytesOf e ∨ n ∈ DataW.weightsAll Tryd.prog e es → n ≤ reachBytes := fun n hn => hw n (by
      simp only [DataW.weights, ht, List.mem_cons, List.mem_append]
      rcases hn with h | h
      · exact .inl h
      · exact .inr (.inl h))
    refine ⟨?_, fun x hx => ?_⟩
    · have h1 := hd' _ (.inl rfl)
      have h2 : xs.length * Tryd.prog.bytesOf e ≤ (es.length + sp.length) * Tryd.prog.bytesOf e := Nat.mul_le_mul_right _ (by omega)
      exact Nat.le_trans h2 h1
    · obtain ⟨i, hi⟩ := List.mem_iff_getElem?.1 hx
      obtain ⟨y, hy, hD⟩ := hd i x hi
      exact ⟨y, hD, fun n hn => hd' n (.inr (wAll_mem hy n hn))⟩
theorem wok_pr {H : Type} {x : Pr} {d : DataW H} (h : datPr H x d) (hw : Wok 41 d) : x.1.length ≤ reachBytes ∧ x.2.length ≤ reachBytes := by
  obtain ⟨d0, d1, rfl, h0, h1⟩ := h
  have e : (DataW.agg [d0, d1]).weights Tryd.prog 41 = DataW.weightsEach Tryd.prog [9, 9] [d0, d1] := by
    simp only [DataW.weights, Tryd.underlying41]
    rfl
  refine ⟨wok_str (t := 9) h0 fun n hn => hw n ?_, wok_str (t := 9) h1 fun n hn => hw n ?_⟩
  · rw [e]; exact DataW.weights_mem_each (j := 0) rfl rfl n hn
  · rw [e]; exact DataW.weights_mem_each (j := 1) rfl rfl n hn
theorem bytesPr : Tryd.prog.bytesOf 41 = 32 := by kernel_rfl
theorem bytesNd : Tryd.prog.bytesOf 39 = 48 := by kernel_rfl
theorem wok_nd {H : Type} {x : Nd} {d : DataW H} (h : datNd H x d) (hw : Wok 39 d) :
    x.name.length ≤ reachBytes ∧ x.props.length * 32 ≤ reachBytes ∧ ∀ p ∈ x.props, p.1.length ≤ reachBytes ∧ p.2.length ≤ reachBytes := by
  obtain ⟨d0, d1, d2, rfl, h0, h1, h2⟩ := h
  have e : (DataW.agg [d0, d1, d2]).weights Tryd.prog 39 = DataW.weightsEach Tryd.prog [3, 9, 37] [d0, d1, d2] := by
    simp only [DataW.weights, Tryd.underlying39]
    rfl
  have h3 := wok_sl (t := 37) Tryd.underlying37 h2 fun n hn => hw n (by rw [e]; exact DataW.weights_mem_each (j := 2) rfl rfl n hn)
  rw [bytesPr] at h3
  refine ⟨wok_str (t := 9) h1 fun n hn => hw n ?_, h3.1, fun p hp => ?_⟩
  · rw [e]; exact DataW.weights_mem_each (j := 1) rfl rfl n hn
  · obtain ⟨y, hy, hwy⟩ := h3.2 p hp
    exact wok_pr hy hwy
theorem sz_nds {H : Type} {t : List Nd} {d : DataW H} (h : datSl datNd H t d) (hw : Wok 22 d) : Sz t := by
  have h1 := wok_sl (t := 22) Tryd.underlying22 h hw
  rw [bytesNd] at h1
  have h2 : ∀ x ∈ t, x.name.length ≤ reachBytes ∧ x.props.length * 32 ≤ reachBytes ∧ ∀ p ∈ x.props, p.1.length ≤ reachBytes ∧ p.2.length ≤ reachBytes := fun x hx => by
    obtain ⟨y, hy, hwy⟩ := h1.2 x hx
    exact wok_nd hy hwy
  exact ⟨h1.1, fun x hx => (h2 x hx).2.1, fun x hx => (h2 x hx).1, fun x hx p hp => by have := (h2 x hx).2.2 p hp; have e : reachBytes = 140737488351232 := rfl; omega⟩
theorem sz1_nds {H : Type} {t : List Nd} {d : DataW H} (h : datSl datNd H t d) (hw : Wok 22 d) : ∀ x ∈ t, ∀ p ∈ x.props, p.1.length ≤ 140737488351232 := fun x hx p hp => by
  obtain ⟨y, hy, hwy⟩ := (wok_sl (t := 22) Tryd.underlying22 h hw).2 x hx
  exact ((wok_nd hy hwy).2.2 p hp).1
theorem sz_tw {H : Type} {x : Tw} {d : DataW H} (h : datTw H x d) (hw : Wok 53 d) : Sz x.one ∧ Sz x.other ∧ x.more.length ≤ reachBytes := by
  obtain ⟨d0, d1, d2, d3, rfl, h0, h1, h2, h3⟩ := h
  have e : (DataW.agg [d0, d1, d2, d3]).weights Tryd.prog 53 = DataW.weightsEach Tryd.prog [22, 22, 3, 9] [d0, d1, d2, d3] := by
    simp only [DataW.weights, Tryd.underlying53]
    rfl
  refine ⟨sz_nds h0 fun n hn => hw n ?_, sz_nds h1 fun n hn => hw n ?_, wok_str (t := 9) h3 fun n hn => hw n ?_⟩
  · rw [e]; exact DataW.weights_mem_each (j := 0) rfl rfl n hn
  · rw [e]; exact DataW.weights_mem_each (j := 1) rfl rfl n hn
  · rw [e]; exact DataW.weights_mem_each (j := 3) rfl rfl n hn
/-- The weights of an argument. -/
theorem wok_arg {H : Type} {ts : List TypeId} {ds : List (DataW H)} (h : (DataW.weightsEach Tryd.prog ts ds).all (· ≤ reachBytes) = true) {j : Nat} {t : TypeId} {d : DataW H} (ht : ts[j]? = some t) (hd : ds[j]? = some d) : Wok t d := fun n hn => by
  have := List.all_eq_true.1 h _ (DataW.weights_mem_each ht hd n hn)
  simpa using this
end Go.Proofs.YtlkhajheecglgaaDoor

namespace Go.Proofs.YtlkhajheecglgaaDoor
open Go Wk
open Go.RowKit (Below)
attribute [local irreducible] Go.Calls

section
variable {P : Program} {n : Nat} {ds : List Deferred} {Q : Po} {F : Fr} {w : World} {ops rest : List Oper} {d : Nat} {ty t t' : TypeId} {pos : String} {aft : Array Edge}
theorem Wk.Wl.bneq {x y : Operand} {a b : Bool} [ht : Und P t .bool] (hx : ev n F x = .bool a) (hy : ev n F y = .bool b) (c : Wl P n ds Q ops rest (upd F d (.bool !(a == b))) w) : Wl P n ds Q ops (⟨some d, .binOp .neq t x y t', ty, pos, aft, none⟩ :: rest) F w := by
  refine Wl.val ?_ c
  have h : (Op.equalIn 10000 t (.bool a) (.bool b)).run P w = .ok (a == b) w := run_equalIn_bool' (P := P) w 9999 t a b ht.h
  have hb : (binOp .neq t (.bool a) (.bool b)).run P w = .ok (.bool !(a == b)) w := by
    simp only [binOp]
    simp [Op.equal, Op.maxDepth, h]
  simp only [execOp, hx, hy, Sem.run_bind, run_eqGuard_bool, Result.andThen_ok, hb, Sem.run_pure]
end
theorem Sz.txok {t : List Nd} (h : Sz t) : ∀ x ∈ t, TxOk x.props := fun x hx p hp => by
  have := (h.tx x hx p hp).1
  simp only [maxLen]; omega
theorem lookM_some {s : List UInt8} {l : List Nd} {hd : List Nat} (h : readM s = some (l, hd)) : lookM s = (hd, 0) := by unfold lookM; rw [h]
theorem look_full {l : List Nd} (h : treeOk l = true) : lookM (encL l) = (headL l, 0) := lookM_some (readM_full h)
set_option maxRecDepth 4000 in
set_option maxHeartbeats 4000000 in
theorem back_law {Pt : Nat → Prop} {w : World} {x : Tw} {v0 v1 : Value} (h0 : RdS rNd 3 Pt w v0 x.one) (h1 : RdS rNd 3 Pt w v1 x.other) (z0 : Sz x.one) (z1 : Sz x.other) (zm : x.more.length ≤ 140737488351232) :
    Calls Tryd.prog 6 #[.agg #[v0, v1, vi x.cut, vs x.more]] w (Ret fun r w' => r = .bool true ∧ New w w') := by
  obtain ⟨a0, c0, rfl, ha0, hc0⟩ := h0.form
  obtain ⟨a1, c1, rfl, ha1, hc1⟩ := h1.form
  obtain ⟨l, m, cut, more⟩ := x
  dsimp only at *
  refine calls_of_Wc Tryd.func6 rfl Tryd.ntmps6 rfl ?_
  (repeat' (first | refine Wc.seq ?_ | refine Wc.region ?_))
  refine Wl.box rfl fun w1 b1 n1 s1 => ?_
  replace b1 : Bk w1 w.heap.size 53 [.slice a0 l.length c0, .slice a1 m.length c1, vi cut, vs more] := b1
  (repeat' (first | refine Wl.assignE (by conv => { lhs; whnf }) ?_ | refine Wl.nil ?_ | refine Qseq.normal ?_ | refine Wc.seq ?_ | refine Wc.region ?_ | refine Wl.fieldAddr rfl rfl ?_))
  refine Wl.load1 rfl (b1.cell (o := 0) rfl) ?_
  (repeat' (first | refine Wl.assignE (by conv => { lhs; whnf }) ?_ | refine Wl.nil ?_ | refine Qseq.normal ?_ | refine Wc.seq ?_ | refine Wc.region ?_ | refine Wl.fieldAddr rfl rfl ?_))
  refine Wl.load1 rfl (b1.cell (o := 1) rfl) ?_
  (repeat' (first | refine Wl.moveE (by conv => { lhs; whnf }) ?_ | refine Wl.assignE (by conv => { lhs; whnf }) ?_ | refine Wl.nil ?_ | refine Qseq.normal ?_ | refine Wc.seq ?_ | refine Wc.region ?_))
  refine Wl.call (lent_spec (h0.keep stableNd n1.keep) z0) rfl ?_
  rintro _ w2 ⟨lab2, a2, cap2, pv2, rfl, t2, n2⟩
  have n02 := New.trans n1 n2
  refine Wl.call (Encode_spec t2.own.rd z0.txok) rfl ?_
  rintro _ w3 ⟨rfl, n3⟩
  have n03 := New.trans n02 n3
  (repeat' (first | refine Wl.moveE (by conv => { lhs; whnf }) ?_ | refine Wl.assignE (by conv => { lhs; whnf }) ?_ | refine Wl.nil ?_ | refine Wl.extract rfl rfl ?_ | refine Qseq.normal ?_ | refine Wc.seq ?_ | refine Wc.region ?_))
  refine Wl.call (lent_spec (h1.keep stableNd n03.keep) z1) rfl ?_
  rintro _ w4 ⟨lab4, a4, cap4, pv4, rfl, t4, n4⟩
  have n04 := New.trans n03 n4
  refine Wl.call (Encode_spec t4.own.rd z1.txok) rfl ?_
  rintro _ w5 ⟨rfl, n5⟩
  have n05 := New.trans n04 n5
  cases hok : treeOk l with
  | false =>
    rw [if_neg (by simp), if_neg (by simp)]
    (repeat' (first | refine Wl.moveE (by conv => { lhs; whnf }) ?_ | refine Wl.assignE (by conv => { lhs; whnf }) ?_ | refine Wl.nil ?_ | refine Wl.extract rfl rfl ?_ | refine Wl.guardY rfl rfl ?_ | refine Qseq.normal ?_ | refine Wc.seq ?_ | refine Wc.region ?_ | refine Wc.condT rfl ?_ | (refine Wl.neq rfl rfl (fun _ => ?_) (fun _ => ?_) <;> (first | (exfalso; omega) | skip)) | (refine Wl.seql rfl rfl (fun _ => ?_) (fun _ => ?_) <;> (first | (exfalso; contradiction) | skip))))
    refine Wl.call awake_spec rfl ?_
    rintro _ w6 ⟨rfl, n6⟩
    (repeat' (first | refine Wl.assignE (by conv => { lhs; whnf }) ?_ | refine Wl.nil ?_ | refine Wl.pickTE rfl (by conv => { lhs; whnf }) ?_ | refine Qseq.normal ?_ | refine Wc.ret ?_ | refine Qseq.ret ?_))
    exact Qfn.ret1 rfl rfl ⟨_, rfl, rfl, New.trans n05 n6⟩
  | true =>
  rw [if_pos rfl, if_pos rfl]
  obtain ⟨B, fv, hB, hf, hBf⟩ : ∃ (B : List UInt8) (fv : Int), (if treeOk m = true then encL m else []) = B ∧ (if treeOk m = true then (0 : Int) else 40) = fv ∧ (fv = 40 ∨ (fv = 0 ∧ B = encL m ∧ treeOk m = true)) := by
    cases hm : treeOk m with
    | false => exact ⟨_, _, rfl, rfl, .inl rfl⟩
    | true => exact ⟨_, _, rfl, rfl, .inr ⟨rfl, rfl, rfl⟩⟩
  rw [hB, hf]
  clear hB hf
  have hA1 := encL_length l
  have hA2 := enc_lt hok
  have hA3 := dec_full hok
  have hA4 : lookM (encL l) = ([(encL l).length, (structL l).length, (stringsL l).length, l.length], 0) := look_full hok
  have hA5 := struct_mod hok
  have hA6 : ∀ n, n < (encL l).length → decM ((encL l).take n) = ([], 4) := fun n hn => decM_cut hok hn
  have hA7 : more ≠ [] → decM (encL l ++ more) = ([], 4) := fun hm => decM_more hok hm
  have hA8 : treeOk m = true → (encL l = encL m ↔ l = m) := fun hm => enc_inj hok hm
  generalize encL l = A at *
  generalize (structL l).length = sn at *
  generalize (stringsL l).length = tn at *
  (repeat' (first | refine Wl.moveE (by conv => { lhs; whnf }) ?_ | refine Wl.assignE (by conv => { lhs; whnf }) ?_ | refine Wl.nil ?_ | refine Wl.extract rfl rfl ?_ | refine Qseq.normal ?_ | refine Wc.seq ?_ | refine Wc.region ?_ | refine Wc.skip ?_ | refine Wc.condF rfl ?_ | (refine Wl.neq rfl rfl (fun _ => ?_) (fun _ => ?_) <;> (first | (exfalso; omega) | skip))))
  refine Wl.call (Decode_spec (s := A) (by omega)) rfl ?_
  rintro _ w6 ⟨nv, lab6, pv6, rfl, t6, n6⟩
  have n06 := New.trans n05 n6
  rw [hA3] at t6 ⊢
  have r6 := t6.rd
  obtain ⟨na, nc, rfl, hna, hnc⟩ := r6.form
  (repeat' (first | refine Wl.moveE (by conv => { lhs; whnf }) ?_ | refine Wl.assignE (by conv => { lhs; whnf }) ?_ | refine Wl.nil ?_ | refine Wl.extract rfl rfl ?_ | refine Qseq.normal ?_ | refine Wc.seq ?_ | refine Wc.region ?_))
  refine Wl.call (Look_spec (s := A) (by omega)) rfl ?_
  rintro _ w7 ⟨rfl, n7⟩
  have n07 := New.trans n06 n7
  rw [hA4]
  (repeat' (first | refine Wl.moveE (by conv => { lhs; whnf }) ?_ | refine Wl.extract rfl rfl ?_))
  refine Wl.alloc fun w8 b8 n8 s8 => ?_
  skip
  refine Wl.storeB (new := [vi A.length, vi sn, vi tn, vi l.length]) b8 rfl rfl rfl rfl (show (4 : Nat) ≤ 4 from Nat.le_refl 4) (by intro c hc; simp at hc; rcases hc with rfl | rfl | rfl | rfl <;> rfl) fun w9 b9 c9 s9 => ?_
  replace b9 : Bk w9 w7.heap.size 44 [vi A.length, vi sn, vi tn, vi l.length] := b9
  have n79 : New w7 w9 := Chg.trans n8 c9 fun k hk e => by omega
  have n09 := New.trans n07 n79
  clear b8 c9
  (repeat' (first | refine Wl.moveE (by conv => { lhs; whnf }) ?_ | refine Wl.assignE (by conv => { lhs; whnf }) ?_ | refine Wl.nil ?_ | refine Wl.guardY rfl rfl ?_ | refine Wl.pickFE rfl (by conv => { lhs; whnf }) ?_ | refine Qseq.normal ?_ | refine Wc.seq ?_ | refine Wc.region ?_ | (refine Wl.neq rfl rfl (fun _ => ?_) (fun _ => ?_) <;> (first | (exfalso; omega) | skip))))
  refine Wl.call (alike_spec (r6.keep stableNd (New.trans n7 n79).keep) (h0.keep stableNd n09.keep)) rfl ?_
  rintro _ w10 ⟨q, rfl, hq, n10⟩
  obtain rfl : q = true := hq.2 rfl
  have n010 := New.trans n09 n10
  have b10 := b9.keep n10.keep (Pb := fun _ => True) trivial
  have b110 := b1.keep (New.trans (New.trans (New.trans (New.trans (New.trans (New.trans (New.trans n2 n3) n4) n5) n6) n7) n79) n10).keep (Pb := fun _ => True) trivial
  clear b9
  (repeat' (first | refine Wl.moveE (by conv => { lhs; whnf }) ?_ | refine Wl.guardY rfl rfl ?_ | refine Wl.pickFE rfl (by conv => { lhs; whnf }) ?_ | refine Wl.notB rfl ?_ | refine Wl.fieldAddr rfl rfl ?_))
  refine Wl.load1 rfl (b10.cell (o := 0) rfl) ?_
  (repeat' (first | refine Wl.moveE (by conv => { lhs; whnf }) ?_ | refine Wl.guardY rfl rfl ?_ | refine Wl.pickFE rfl (by conv => { lhs; whnf }) ?_ | refine Wl.lenStr rfl ?_ | refine Wl.fieldAddr rfl rfl ?_ | (refine Wl.neq rfl rfl (fun _ => ?_) (fun _ => ?_) <;> (first | (exfalso; omega) | skip))))
  refine Wl.load1 rfl (b10.cell (o := 0) rfl) ?_
  (repeat' (first | refine Wl.guardY rfl rfl ?_ | refine Wl.fieldAddr rfl rfl ?_))
  refine Wl.load1 rfl (b10.cell (o := 1) rfl) ?_
  (repeat' (first | refine Wl.guardY rfl rfl ?_ | refine Wl.fieldAddr rfl rfl ?_ | refine Wl.add rfl rfl (by omega) (by omega) ?_))
  refine Wl.load1 rfl (b10.cell (o := 2) rfl) ?_
  (repeat' (first | refine Wl.moveE (by conv => { lhs; whnf }) ?_ | refine Wl.guardY rfl rfl ?_ | refine Wl.pickFE rfl (by conv => { lhs; whnf }) ?_ | refine Wl.fieldAddr rfl rfl ?_ | refine Wl.add rfl rfl (by omega) (by omega) ?_ | (refine Wl.neq rfl rfl (fun _ => ?_) (fun _ => ?_) <;> (first | (exfalso; omega) | skip))))
  refine Wl.load1 rfl (b10.cell (o := 3) rfl) ?_
  (repeat' (first | refine Wl.moveE (by conv => { lhs; whnf }) ?_ | refine Wl.guardY rfl rfl ?_ | refine Wl.pickFE rfl (by conv => { lhs; whnf }) ?_ | refine Wl.lenS rfl ?_ | refine Wl.fieldAddr rfl rfl ?_ | (refine Wl.neq rfl rfl (fun _ => ?_) (fun _ => ?_) <;> (first | (exfalso; omega) | skip))))
  refine Wl.load1 rfl (b10.cell (o := 1) rfl) ?_
  (repeat' (refine Wl.guardY rfl rfl ?_))
  refine Wl.remW rfl rfl (by omega) ?_
  rw [show (sn : Int).tmod 4 = 0 by show ((sn % 4 : Nat) : Int) = 0; omega]
  clear b10
  (repeat' (first | refine Wl.moveE (by conv => { lhs; whnf }) ?_ | refine Wl.nil ?_ | refine Wl.guardY rfl rfl ?_ | refine Wl.guardN rfl rfl ?_ | refine Wl.pickFE rfl (by conv => { lhs; whnf }) ?_ | refine Qseq.normal ?_ | refine Wc.seq ?_ | refine Wc.region ?_ | refine Wc.skip ?_ | refine Wc.condF rfl ?_ | refine Wl.fieldAddr rfl rfl ?_ | refine Wl.eql rfl rfl (fun _ => ?_) (fun _ => ?_) | (refine Wl.neq rfl rfl (fun _ => ?_) (fun _ => ?_) <;> (first | (exfalso; omega) | skip)) | refine Wl.seql rfl rfl (fun _ => ?_) (fun _ => ?_)))
  all_goals first
    | (rcases hBf with hBf | ⟨_, hBe, hmo⟩
       · omega
       have hAB := hA8 hmo
       rw [← hBe] at hAB
       refine Wl.call (alike_spec (h0.keep stableNd n010.keep) (h1.keep stableNd n010.keep)) rfl ?_
       rintro _ w11 ⟨q, rfl, hq2, n11⟩
       obtain rfl : q = true := hq2.2 (hAB.1 (by assumption))
       (try refine Wl.guardY rfl rfl ?_)
       refine Wl.bneq rfl rfl ?_
       rw [show (!(true == true)) = false from rfl]
       have n011 := New.trans n010 n11
       have b11 := b110.keep n11.keep (Pb := fun _ => True) trivial
       clear b110 hAB hA8 hq2 hBe hmo
       (repeat' (first | refine Wl.nil ?_ | refine Wl.pickTE rfl (by conv => { lhs; whnf }) ?_ | refine Qseq.normal ?_ | refine Wc.seq ?_ | refine Wc.region ?_ | refine Wc.skip ?_ | refine Wc.condF rfl ?_ | refine Wl.fieldAddr rfl rfl ?_)))
    | (rcases hBf with hBf | ⟨_, hBe, hmo⟩
       · omega
       have hAB := hA8 hmo
       rw [← hBe] at hAB
       refine Wl.call (alike_spec (h0.keep stableNd n010.keep) (h1.keep stableNd n010.keep)) rfl ?_
       rintro _ w11 ⟨q, rfl, hq2, n11⟩
       have hqf : q = false := by
         cases q with
         | false => rfl
         | true => exact absurd (hAB.2 (hq2.1 rfl)) (by assumption)
       subst hqf
       (try refine Wl.guardY rfl rfl ?_)
       refine Wl.bneq rfl rfl ?_
       rw [show (!(false == false)) = false from rfl]
       have n011 := New.trans n010 n11
       have b11 := b110.keep n11.keep (Pb := fun _ => True) trivial
       clear b110 hAB hA8 hq2 hBe hmo
       (repeat' (first | refine Wl.nil ?_ | refine Wl.pickTE rfl (by conv => { lhs; whnf }) ?_ | refine Qseq.normal ?_ | refine Wc.seq ?_ | refine Wc.region ?_ | refine Wc.skip ?_ | refine Wc.condF rfl ?_ | refine Wl.fieldAddr rfl rfl ?_)))
    | (have n011 := n010
       have b11 := b110
       clear b110 hA8)
  all_goals
    obtain ⟨n, hn, hnl, hm1, hm2⟩ := mod_range (a := cut) (L := A.length) (by omega)
    refine Wl.load1 rfl (b11.cell (o := 2) rfl) ?_
    (repeat' (first | refine Wl.moveE (by conv => { lhs; whnf }) ?_ | refine Wl.lenStr rfl ?_))
    refine Wl.remW rfl rfl (by omega) ?_
    (repeat' (first | refine Wl.moveE (by conv => { lhs; whnf }) ?_ | refine Wl.lenStr rfl ?_ | refine Wl.add rfl rfl (by omega) (by omega) ?_))
    refine Wl.remW rfl rfl (by omega) ?_
    rw [hn]
    (repeat' (first | refine Wl.moveE (by conv => { lhs; whnf }) ?_ | refine Wl.assignE (by conv => { lhs; whnf }) ?_ | refine Wl.nil ?_ | refine Qseq.normal ?_ | refine Wc.seq ?_ | refine Wc.region ?_))
    refine Wl.strTo rfl rfl (by omega) (by omega) ?_
    rw [Int.toNat_natCast]
    refine Wl.call (Decode_spec (s := A.take n) (by rw [List.length_take]; omega)) rfl ?_
    rintro _ w12 ⟨nv12, lab12, pv12, rfl, t12, n12⟩
    rw [hA6 n hnl] at t12 ⊢
    obtain ⟨ea, ec, rfl, _, _⟩ := t12.rd.form
    have b12 := b11.keep n12.keep (Pb := fun _ => True) trivial
    (repeat' (first | refine Wl.moveE (by conv => { lhs; whnf }) ?_ | refine Wl.assignE (by conv => { lhs; whnf }) ?_ | refine Wl.nil ?_ | refine Wl.extract rfl rfl ?_ | refine Qseq.normal ?_ | refine Wc.seq ?_ | refine Wc.region ?_ | refine Wl.fieldAddr rfl rfl ?_))
    refine Wl.load1 rfl (b12.cell (o := 3) rfl) ?_
    refine Wl.sadd rfl rfl (by omega) ?_
    refine Wl.call (Decode_spec (s := A ++ more) (by rw [List.length_append]; omega)) rfl ?_
    rintro _ w13 ⟨nv13, lab13, pv13, rfl, t13, n13⟩
    have b13 := b12.keep n13.keep (Pb := fun _ => True) trivial
    have n013 := New.trans (New.trans n011 n12) n13
    obtain ⟨fa, fc, rfl, _, _⟩ := t13.rd.form
    clear t13 t12
    by_cases hmo : more = []
    · subst hmo
      rw [List.append_nil, hA3]
      (repeat' (first | refine Wl.moveE (by conv => { lhs; whnf }) ?_ | refine Wl.assignE (by conv => { lhs; whnf }) ?_ | refine Wl.nil ?_ | refine Wl.extract rfl rfl ?_ | refine Wl.guardY rfl rfl ?_ | refine Qseq.normal ?_ | refine Wc.seq ?_ | refine Wc.region ?_ | refine Wl.fieldAddr rfl rfl ?_ | (refine Wl.eql rfl rfl (fun _ => ?_) (fun _ => ?_) <;> (first | (exfalso; omega) | skip))))
      refine Wl.load1 rfl (b13.cell (o := 3) rfl) ?_
      (try refine Wl.guardY rfl rfl ?_)
      refine Wl.seqlSame (a := []) rfl rfl ?_
      (try refine Wl.guardY rfl rfl ?_)
      refine Wl.beql rfl rfl ?_
      rw [show (true == true) = true from rfl]
      (repeat' (first | refine Wl.moveE (by conv => { lhs; whnf }) ?_ | refine Wl.guardY rfl rfl ?_ | refine Wl.pickTE rfl (by conv => { lhs; whnf }) ?_))
      refine Wl.call awake_spec rfl ?_
      rintro _ w14 ⟨rfl, n14⟩
      (repeat' (first | refine Wl.assignE (by conv => { lhs; whnf }) ?_ | refine Wl.nil ?_ | refine Wl.pickTE rfl (by conv => { lhs; whnf }) ?_ | refine Qseq.normal ?_ | refine Wc.ret ?_))
      exact Qfn.ret1 rfl rfl ⟨_, rfl, rfl, New.trans n013 n14⟩
    · rw [hA7 hmo]
      (repeat' (first | refine Wl.moveE (by conv => { lhs; whnf }) ?_ | refine Wl.assignE (by conv => { lhs; whnf }) ?_ | refine Wl.nil ?_ | refine Wl.extract rfl rfl ?_ | refine Wl.guardY rfl rfl ?_ | refine Qseq.normal ?_ | refine Wc.seq ?_ | refine Wc.region ?_ | refine Wl.fieldAddr rfl rfl ?_ | (refine Wl.eql rfl rfl (fun _ => ?_) (fun _ => ?_) <;> (first | (exfalso; omega) | skip))))
      refine Wl.load1 rfl (b13.cell (o := 3) rfl) ?_
      (repeat' (first | refine Wl.guardY rfl rfl ?_ | (refine Wl.seql rfl rfl (fun _ => ?_) (fun _ => ?_) <;> (first | (exfalso; contradiction) | skip))))
      refine Wl.beql rfl rfl ?_
      rw [show (false == false) = true from rfl]
      (repeat' (first | refine Wl.moveE (by conv => { lhs; whnf }) ?_ | refine Wl.guardY rfl rfl ?_ | refine Wl.pickTE rfl (by conv => { lhs; whnf }) ?_))
      refine Wl.call awake_spec rfl ?_
      rintro _ w14 ⟨rfl, n14⟩
      (repeat' (first | refine Wl.assignE (by conv => { lhs; whnf }) ?_ | refine Wl.nil ?_ | refine Wl.pickTE rfl (by conv => { lhs; whnf }) ?_ | refine Qseq.normal ?_ | refine Wc.ret ?_))
      exact Qfn.ret1 rfl rfl ⟨_, rfl, rfl, New.trans n013 n14⟩
end Go.Proofs.YtlkhajheecglgaaDoor
