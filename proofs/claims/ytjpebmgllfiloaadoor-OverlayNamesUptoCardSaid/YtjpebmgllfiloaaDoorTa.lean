/-
  Trees as lists of nodes: how they lie in memory, when they may be; the walk of tree.props.
-/
import Derived.Test.YtjpebmgllfiloaaDoorNm
import Derived.StringKeys
import Derived.DeepKeys3
namespace Go.Proofs.YtjpebmgllfiloaaDoor
open Go Wk
open Go.RowKit (Below)
attribute [local irreducible] Go.Calls

abbrev Pr := List UInt8 × List UInt8
def pC (p : Pr) : List Value := [vs p.1, vs p.2]
structure Nd where
  parent : Int
  name : List UInt8
  props : List Pr
deriving DecidableEq, Inhabited
abbrev rPr : Rel Pr := flat pC
def rNd : Rel Nd := fun Pb w x cs => ∃ v, cs = [vi x.parent, vs x.name, v] ∧ RdS rPr 2 Pb w v x.props
theorem goodPr : GoodR rPr 2 := good_flat pC (fun _ => rfl) (fun x c hc => by simp [pC] at hc; rcases hc with rfl | rfl <;> rfl)
theorem plainPr : Plain rPr := plain_flat pC
theorem stableNd : Stable rNd := fun _ _ _ _ _ hk ⟨v, e, h⟩ => ⟨v, e, h.keep (stable_flat pC) hk⟩
theorem monoNd : Mono rNd := fun _ _ _ _ _ hP ⟨v, e, h⟩ => ⟨v, e, h.mono (mono_flat pC) hP⟩
theorem goodNd : GoodR rNd 3 := ⟨stableNd, monoNd, fun Pb w x cs ⟨v, e, h⟩ _ c hc => by
  subst e
  obtain ⟨a, cap, rfl, _⟩ := h.form
  simp at hc
  rcases hc with rfl | rfl | rfl <;> rfl⟩

/-! When props may be. -/
def propsGo (seen : List (List UInt8)) : List Pr → Bool
  | [] => true
  | p :: r => nameOk p.1 && (decide (p.2.length ≤ 1024) && (!seen.contains p.1 && propsGo (seen ++ [p.1]) r))
def propsOk (l : List Pr) : Bool := decide (l.length ≤ 32) && propsGo [] l
theorem nameNo_ok {s : List UInt8} (h : nameNo s = 0) : nameOk s = true := by
  unfold nameNo at h; split at h
  · assumption
  · cases h
theorem nameNo_bad {s : List UInt8} (h : nameNo s ≠ 0) : nameOk s = false := by
  unfold nameNo at h; split at h
  · exact absurd rfl h
  · simpa using ‹¬ nameOk s = true›
theorem nameOk_len {s : List UInt8} (h : nameOk s = true) : s.length ≤ 31 := by
  unfold nameOk at h
  simp only [Bool.and_eq_true, decide_eq_true_eq] at h
  exact h.1.2
theorem drop_cons {α : Type} {l : List α} {i : Nat} {x : α} (h : l[i]? = some x) : l.drop i = x :: l.drop (i + 1) := by
  obtain ⟨h1, rfl⟩ := List.getElem?_eq_some_iff.1 h
  exact List.drop_eq_getElem_cons h1
theorem take_snoc {α : Type} {l : List α} {i : Nat} {x : α} (h : l[i]? = some x) : l.take (i + 1) = l.take i ++ [x] := by
  rw [List.take_add_one, h]; rfl
theorem get_lt {α : Type} (xs : List α) {k : Nat} (h : k < xs.length) : ∃ x, xs[k]? = some x := ⟨xs[k], List.getElem?_eq_getElem h⟩
theorem vs_inj {a b : List UInt8} (h : vs a = vs b) : a = b := by
  simp only [vs, Value.string.injEq, ByteArray.mk.injEq] at h
  simpa using h
theorem keyStr (s : List UInt8) (h : s.length ≤ 31) : ∃ q, keyOf Tryd.prog 9 (vs s) = some q :=
  ⟨_, WideMaps.keyOf_string_mk Tryd.underlying9 (by simp only [ByteArray.size, List.size_toArray, maxLen]; omega)⟩
abbrev setV {α : Type} (f : α → Value) (ks : List α) : List (Value × Value) := ks.map fun k => (f k, .bool true)

set_option maxRecDepth 4000 in
theorem props_spec {Pb : Nat → Prop} {w : World} {v : Value} {l : List Pr} (h : RdS rPr 2 Pb w v l) :
    Calls Tryd.prog 84 #[v] w (Ret fun r w' => r = .bool (propsOk l) ∧ New w w') := by
  obtain ⟨a, cap, rfl, hc1, hc2⟩ := h.form
  simp only [maxLen] at hc2
  refine calls_of_Wc (n := 36) Tryd.func84 rfl rfl rfl ?_
  unfold propsOk
  (repeat' (first | refine Wl.moveE (by conv => { lhs; whnf }) ?_ | refine Wl.assignE (by conv => { lhs; whnf }) ?_ | refine Wl.nil ?_ | refine Wl.lenS rfl ?_ | refine Qseq.normal ?_ | refine Wc.seq ?_ | refine Wc.region ?_ | refine Wc.skip ?_ | refine Wc.ret ?_ | refine Qseq.ret ?_ | refine Wc.condT rfl ?_ | refine Wc.condF rfl ?_ | refine Wl.gtr rfl rfl (fun _ => ?_) (fun _ => ?_)))
  · rw [decide_eq_false (by omega)]
    exact Qfn.ret1 rfl rfl ⟨_, rfl, rfl, Chg.refl _ _⟩
  · rw [decide_eq_true (by omega), Bool.true_and]
    refine Wl.makeMap (k := 9) fun w1 m1 n1 s1 => ?_
    generalize hbm : w.heap.size = bm at m1
    (repeat' (first | refine Wl.moveE (by conv => { lhs; whnf }) ?_ | refine Wl.assignE (by conv => { lhs; whnf }) ?_ | refine Wl.nil ?_ | refine Wl.lenS rfl ?_ | refine Qseq.normal ?_ | refine Wc.seq ?_ | refine Wc.region ?_ | refine Wc.block ?_))
    refine Wc.loop (σ := Nat) (fun i => [(3, .map (some bm)), (10, .slice a l.length cap), (11, vi l.length), (12, vi i)]) (fun i w' => i ≤ l.length ∧ propsGo [] l = propsGo ((l.take i).map (·.1)) (l.drop i) ∧ MapL Tryd.prog 9 w' bm (setV vs ((l.take i).map (·.1))) ∧ New w w') (fun i => l.length - i) 0 ⟨rfl, rfl, rfl, rfl, trivial⟩ ⟨Nat.zero_le _, by simp, m1, n1⟩ ?_
    rintro i G w2 ⟨hi, hgo, m2, n2⟩
    simp only [upds]
    (repeat' (first | refine Wl.assignE (by conv => { lhs; whnf }) ?_ | refine Wl.nil ?_ | refine Qseq.normal ?_ | refine Wc.seq ?_ | refine Wc.region ?_ | refine Wc.block ?_ | refine Wc.skip ?_ | refine Wc.exit ?_ | refine Wc.ret ?_ | refine Qseq.exit ?_ | refine Qblk.hit ?_ | refine Qloop.exit ?_ | refine Wc.condT rfl ?_ | refine Wc.condF rfl ?_ | refine Wl.lss rfl rfl (fun _ => ?_) (fun _ => ?_)))
    · obtain ⟨p, hp⟩ := get_lt l (k := i) (by omega)
      refine Wl.idxAddr (h.keep (stable_flat pC) n2.keep) rfl rfl (by omega) hp fun b o cs hl hR hat => ?_
      obtain rfl : cs = pC p := hR
      refine Wl.loadAt hat rfl rfl ?_
      refine Wl.alloc fun w3 b3 n3 s3 => ?_
      refine Wl.storeB (new := pC p) b3 rfl rfl rfl rfl (show (2 : Nat) ≤ 2 from Nat.le_refl 2) (goodPr.oc (fun _ => True) w p _ rfl rfl) fun w4 b4 c4 s4 => ?_
      have m4 := (m2.keep n3.keep (Pb := fun _ => True) trivial).chg c4 (by have := m2.lt; omega)
      have n4 : New w w4 := Chg.trans (New.trans n2 n3) c4 fun k hk e => by have := n2.size; omega
      replace b4 : Bk w4 w2.heap.size 39 (pC p) := b4
      rw [drop_cons hp] at hgo
      simp only [propsGo] at hgo
      (repeat' (first | refine Wl.nil ?_ | refine Qseq.normal ?_ | refine Wc.seq ?_ | refine Wc.region ?_ | refine Wl.fieldAddr rfl rfl ?_))
      refine Wl.load1 rfl (b4.cell (o := 0) rfl) ?_
      refine Wl.call (Name_spec (s := p.1)) rfl ?_
      rintro _ w5 ⟨rfl, n5⟩
      replace b4 := b4.keep n5.keep (Pb := fun _ => True) trivial
      replace m4 := m4.keep n5.keep (Pb := fun _ => True) trivial
      replace n5 := New.trans n4 n5
      (repeat' (first | refine Wl.moveE (by conv => { lhs; whnf }) ?_ | refine Wl.assignE (by conv => { lhs; whnf }) ?_ | refine Wl.nil ?_ | refine Wl.guardY rfl rfl ?_ | refine Wl.guardN rfl rfl ?_ | refine Wl.pickTE rfl (by conv => { lhs; whnf }) ?_ | refine Qseq.normal ?_ | refine Wc.seq ?_ | refine Wc.region ?_ | refine Wc.ret ?_ | refine Qseq.ret ?_ | refine Qblk.ret ?_ | refine Qloop.ret ?_ | refine Wc.condT rfl ?_ | refine Wl.fieldAddr rfl rfl ?_ | refine Wl.neq rfl rfl (fun _ => ?_) (fun _ => ?_)))
      · rw [hgo, nameNo_bad (by assumption), Bool.false_and]
        exact Qfn.ret1 rfl rfl ⟨_, rfl, rfl, n5⟩
      · have hok := nameNo_ok (by assumption)
        rw [hok, Bool.true_and] at hgo
        refine Wl.load1 rfl (b4.cell (o := 1) rfl) ?_
        (repeat' (first | refine Wl.moveE (by conv => { lhs; whnf }) ?_ | refine Wl.assignE (by conv => { lhs; whnf }) ?_ | refine Wl.nil ?_ | refine Wl.guardY rfl rfl ?_ | refine Wl.guardN rfl rfl ?_ | refine Wl.pickTE rfl (by conv => { lhs; whnf }) ?_ | refine Wl.pickFE rfl (by conv => { lhs; whnf }) ?_ | refine Wl.lenStr rfl ?_ | refine Qseq.normal ?_ | refine Wc.seq ?_ | refine Wc.region ?_ | refine Wc.ret ?_ | refine Qseq.ret ?_ | refine Qblk.ret ?_ | refine Qloop.ret ?_ | refine Wc.condT rfl ?_ | refine Wl.fieldAddr rfl rfl ?_ | refine Wl.gtr rfl rfl (fun _ => ?_) (fun _ => ?_)))
        · rw [hgo, decide_eq_false (by omega), Bool.false_and]
          exact Qfn.ret1 rfl rfl ⟨_, rfl, rfl, n5⟩
        · rw [decide_eq_true (by omega), Bool.true_and] at hgo
          refine Wl.load1 rfl (b4.cell (o := 0) rfl) ?_
          obtain ⟨q, hq⟩ := keyStr p.1 (nameOk_len hok)
          refine Wl.guardY rfl rfl ?_
          refine Wl.lookup (Maps.string_keyed Tryd.underlying9) m4 hq rfl rfl ?_
          rintro r (hr | ⟨rfl, hr⟩)
          · obtain ⟨k, hk, e⟩ := List.mem_map.1 hr
            simp only [Prod.mk.injEq] at e
            obtain ⟨e1, rfl⟩ := e
            rw [vs_inj e1] at hk
            rw [List.contains_iff_mem.2 hk, Bool.not_true, Bool.false_and] at hgo
            (repeat' (first | refine Wl.assignE (by conv => { lhs; whnf }) ?_ | refine Wl.nil ?_ | refine Wl.pickFE rfl (by conv => { lhs; whnf }) ?_ | refine Qseq.normal ?_ | refine Wc.seq ?_ | refine Wc.region ?_ | refine Wc.ret ?_ | refine Qseq.ret ?_ | refine Qblk.ret ?_ | refine Qloop.ret ?_ | refine Wc.condT rfl ?_))
            rw [hgo]
            exact Qfn.ret1 rfl rfl ⟨_, rfl, rfl, n5⟩
          · have hnk : ((l.take i).map (·.1)).contains p.1 = false := by
              rw [Bool.eq_false_iff]; intro hc
              exact hr (vs p.1, .bool true) (List.mem_map.2 ⟨p.1, List.contains_iff_mem.1 hc, rfl⟩) rfl
            rw [hnk, Bool.not_false, Bool.true_and] at hgo
            (repeat' (first | refine Wl.moveE (by conv => { lhs; whnf }) ?_ | refine Wl.nil ?_ | refine Wl.pickFE rfl (by conv => { lhs; whnf }) ?_ | refine Qseq.normal ?_ | refine Wc.region ?_ | refine Wc.skip ?_ | refine Wc.condF rfl ?_ | refine Wl.fieldAddr rfl rfl ?_))
            refine Wl.load1 rfl (b4.cell (o := 0) rfl) ?_
            refine Wl.mapPut (u := .bool true) (Maps.string_keyed Tryd.underlying9) m4 hq hr rfl rfl rfl fun w6 m6 c6 s6 => ?_
            (repeat' (first | refine Wl.moveE (by conv => { lhs; whnf }) ?_ | refine Wl.nil ?_ | refine Qseq.normal ?_ | refine Wc.region ?_ | refine Qblk.normal ?_ | refine Wl.add rfl rfl (by omega) (by omega) ?_))
            refine Qloop.normal (i + 1) ⟨rfl, rfl, rfl, rfl, trivial⟩ ⟨by omega, ?_, ?_, Chg.trans n5 c6 fun k hk e => by omega⟩ (by omega)
            · rw [hgo, take_snoc hp, List.map_append]; rfl
            · rw [take_snoc hp, List.map_append]
              simpa [setV] using m6
    · have e : i = l.length := by omega
      subst e
      rw [hgo, List.drop_length]
      exact Qfn.ret1 rfl rfl ⟨_, rfl, rfl, n2⟩
end Go.Proofs.YtjpebmgllfiloaaDoor
