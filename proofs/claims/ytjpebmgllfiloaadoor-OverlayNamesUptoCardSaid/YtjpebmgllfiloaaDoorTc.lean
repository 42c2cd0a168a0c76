/-
  Walks of tree.Check, tree.find, tree.Find and overlay.may.
-/
import Derived.Test.YtjpebmgllfiloaaDoorTb
import Derived.Test.YtjpebmgllfiloaaDoorSp
namespace Go.Proofs.YtjpebmgllfiloaaDoor
open Go Wk
open Go.RowKit (Below)
attribute [local irreducible] Go.Calls

def treeOk (l : List Nd) : Bool := (chkGo 0 [] [] [] l).2.isSome && decide (0 < l.length)
def treeAt (l : List Nd) : Int := if treeOk l = true then 0 else (chkGo 0 [] [] [] l).1
def treeE (l : List Nd) : Int := if treeOk l = true then 0 else 40
theorem Check_spec {Pb : Nat → Prop} {w : World} {v : Value} {l : List Nd} (h : RdS rNd 3 Pb w v l) :
    Calls Tryd.prog 65 #[v] w (Ret fun r w' => r = .tuple #[vi (treeAt l), vi (treeE l)] ∧ New w w') := by
  refine calls_of_Wc Tryd.func65 rfl Tryd.ntmps65 rfl ?_
  (repeat' (first | refine Wl.moveE (by conv => { lhs; whnf }) ?_ | refine Wl.assignE (by conv => { lhs; whnf }) ?_ | refine Wl.nil ?_ | refine Qseq.normal ?_ | refine Wc.seq ?_ | refine Wc.region ?_))
  refine Wl.call (check_spec h) rfl ?_
  rintro _ w1 ⟨⟨u, rfl⟩, n1⟩
  unfold treeAt treeE
  cases hok : treeOk l with
  | true =>
    have e : ((chkGo 0 [] [] [] l).2.isSome && decide (0 < l.length)) = true := hok
    rw [e]
    (repeat' (first | refine Wl.moveE (by conv => { lhs; whnf }) ?_ | refine Wl.assignE (by conv => { lhs; whnf }) ?_ | refine Wl.nil ?_ | refine Wl.extract rfl rfl ?_ | refine Wl.notB rfl ?_ | refine Qseq.normal ?_ | refine Wc.seq ?_ | refine Wc.region ?_ | refine Wc.skip ?_ | refine Wc.ret ?_ | refine Wc.condF rfl ?_))
    exact Qfn.ret2 rfl rfl rfl ⟨_, rfl, rfl, n1⟩
  | false =>
    have e : ((chkGo 0 [] [] [] l).2.isSome && decide (0 < l.length)) = false := hok
    rw [e]
    (repeat' (first | refine Wl.moveE (by conv => { lhs; whnf }) ?_ | refine Wl.assignE (by conv => { lhs; whnf }) ?_ | refine Wl.nil ?_ | refine Wl.extract rfl rfl ?_ | refine Wl.notB rfl ?_ | refine Qseq.normal ?_ | refine Wc.seq ?_ | refine Wc.region ?_ | refine Wc.ret ?_ | refine Qseq.ret ?_ | refine Wc.condT rfl ?_))
    exact Qfn.ret2 rfl rfl rfl ⟨_, rfl, rfl, n1⟩
theorem may_spec {Pb : Nat → Prop} {w : World} {v : Value} {l : List Nd} (h : RdS rNd 3 Pb w v l) :
    Calls Tryd.prog 39 #[v] w (Ret fun r w' => r = .bool (treeOk l) ∧ New w w') := by
  refine calls_of_Wc Tryd.func39 rfl Tryd.ntmps39 rfl ?_
  (repeat' (first | refine Wl.moveE (by conv => { lhs; whnf }) ?_ | refine Wl.assignE (by conv => { lhs; whnf }) ?_ | refine Wl.nil ?_ | refine Qseq.normal ?_ | refine Wc.seq ?_ | refine Wc.region ?_))
  refine Wl.call (Check_spec h) rfl ?_
  rintro _ w1 ⟨rfl, n1⟩
  unfold treeE
  cases hok : treeOk l with
  | true =>
    rw [if_pos rfl]
    (repeat' (first | refine Wl.moveE (by conv => { lhs; whnf }) ?_ | refine Wl.assignE (by conv => { lhs; whnf }) ?_ | refine Wl.nil ?_ | refine Wl.extract rfl rfl ?_ | refine Qseq.normal ?_ | refine Wc.seq ?_ | refine Wc.region ?_ | refine Wc.ret ?_ | (refine Wl.eql rfl rfl (fun _ => ?_) (fun _ => ?_) <;> (first | (exfalso; omega) | skip))))
    exact Qfn.ret1 rfl rfl ⟨_, rfl, rfl, n1⟩
  | false =>
    rw [if_neg (by simp)]
    (repeat' (first | refine Wl.moveE (by conv => { lhs; whnf }) ?_ | refine Wl.assignE (by conv => { lhs; whnf }) ?_ | refine Wl.nil ?_ | refine Wl.extract rfl rfl ?_ | refine Qseq.normal ?_ | refine Wc.seq ?_ | refine Wc.region ?_ | refine Wc.ret ?_ | (refine Wl.eql rfl rfl (fun _ => ?_) (fun _ => ?_) <;> (first | (exfalso; omega) | skip))))
    exact Qfn.ret1 rfl rfl ⟨_, rfl, rfl, n1⟩
theorem CutPrefix_spec {s : List UInt8} {w : World} : Calls Tryd.prog 78 #[vs s, vs [47]] w (Ret fun r w' => r = .tuple #[vs (Lib.trimPrefix s [47]), .bool (Lib.hasPrefix s [47])] ∧ w = w') := by
  refine (Tryd.strings_CutPrefix ⟨s.toArray⟩ ⟨#[47]⟩ w).mono ?_
  rintro e w' ⟨rfl, rfl⟩
  exact ⟨_, rfl, rfl, rfl⟩
/-- The first kid of a node with this name, from a place on. -/
def kidIn (at_ : Int) (nm : List UInt8) : Nat → List Nd → Option Nat
  | _, [] => none
  | i, x :: r => if x.parent = at_ ∧ x.name = nm then some i else kidIn at_ nm (i + 1) r
def findGo (t : List Nd) : Nat → List (List UInt8) → Option Nat
  | a, [] => some a
  | a, nm :: r => match kidIn a nm (a + 1) (t.drop (a + 1)) with | some i => findGo t i r | none => none
/-- The node of a path. -/
def findM (t : List Nd) (s : List UInt8) : Option Nat :=
  if Lib.hasPrefix s [47] = true then (if Lib.trimPrefix s [47] = [] then some 0 else findGo t 0 (splitR 47 (Lib.trimPrefix s [47]))) else none
theorem kidIn_lt {at_ : Int} {nm : List UInt8} : ∀ {l : List Nd} {i k : Nat}, kidIn at_ nm i l = some k → i ≤ k ∧ k < i + l.length
  | [], i, k, h => by cases h
  | x :: r, i, k, h => by
    rw [kidIn] at h
    split at h
    · cases h; simp
    · have := kidIn_lt h; simp only [List.length_cons]; omega
def findV : Option Nat → List Value
  | some i => [vi i, .bool true]
  | none => [vi 0, .bool false]
set_option maxHeartbeats 1000000 in
theorem find_spec {Pb : Nat → Prop} {w : World} {v : Value} {l : List Nd} {s : List UInt8} (h : RdS rNd 3 Pb w v l) (h0 : 0 < l.length) (hs : s.length ≤ 2000000) :
    Calls Tryd.prog 66 #[v, vs s] w (Ret fun r w' => r = .tuple (findV (findM l s)).toArray ∧ New w w') := by
  obtain ⟨a, cap, rfl, hc1, hc2⟩ := h.form
  simp only [maxLen] at hc2
  have hts : (Lib.trimPrefix s [47]).length ≤ s.length := by unfold Lib.trimPrefix; split <;> simp
  refine calls_of_Wc Tryd.func66 rfl Tryd.ntmps66 rfl ?_
  (repeat' (first | refine Wl.moveE (by conv => { lhs; whnf }) ?_ | refine Wl.assignE (by conv => { lhs; whnf }) ?_ | refine Wl.nil ?_ | refine Qseq.normal ?_ | refine Wc.seq ?_ | refine Wc.region ?_ | refine Wc.scope ?_))
  refine Wl.call (CutPrefix_spec (s := s)) rfl ?_
  rintro _ _ ⟨rfl, rfl⟩
  unfold findM
  cases hp : Lib.hasPrefix s [47] with
  | false =>
    rw [if_neg (by simp)]
    (repeat' (first | refine Wl.moveE (by conv => { lhs; whnf }) ?_ | refine Wl.assignE (by conv => { lhs; whnf }) ?_ | refine Wl.nil ?_ | refine Wl.extract rfl rfl ?_ | refine Wl.notB rfl ?_ | refine Qseq.normal ?_ | refine Wc.seq ?_ | refine Wc.region ?_ | refine Wc.ret ?_ | refine Qseq.ret ?_ | refine Qsc.ret ?_ | refine Wc.condT rfl ?_))
    exact Qfn.ret2 rfl rfl rfl ⟨_, rfl, rfl, Chg.refl _ _⟩
  | true =>
    rw [if_pos rfl]
    generalize Lib.trimPrefix s [47] = rest at hts ⊢
    (repeat' (first | refine Wl.moveE (by conv => { lhs; whnf }) ?_ | refine Wl.assignE (by conv => { lhs; whnf }) ?_ | refine Wl.nil ?_ | refine Wl.extract rfl rfl ?_ | refine Wl.notB rfl ?_ | refine Qseq.normal ?_ | refine Wc.seq ?_ | refine Wc.region ?_ | refine Wc.skip ?_ | refine Wc.ret ?_ | refine Qseq.ret ?_ | refine Wc.label ?_ | refine Qsc.ret ?_ | refine Wc.condT rfl ?_ | refine Wc.condF rfl ?_ | refine Wl.seql rfl rfl (fun _ => ?_) (fun _ => ?_)))
    · rw [if_pos (by assumption)]
      exact Qfn.ret2 rfl rfl rfl ⟨_, rfl, rfl, Chg.refl _ _⟩
    · rw [if_neg (by assumption)]
      refine Wl.call (Split_spec (l := rest) (by omega)) rfl ?_
      rintro _ w1 ⟨o1, n1⟩
      have hq := o1.rd (mono_one _)
      generalize splitR 47 rest = q at hq ⊢
      clear o1
      obtain ⟨aq, cq, rfl, hq1, hq2⟩ := hq.form
      simp only [maxLen] at hq2
      (repeat' (first | refine Wl.moveE (by conv => { lhs; whnf }) ?_ | refine Wl.nil ?_ | refine Wl.lenS rfl ?_ | refine Qseq.normal ?_ | refine Wc.block ?_))
      refine Wc.loop (σ := Nat × Nat) (fun s => [(0, .slice a l.length cap), (8, vi s.2), (23, .slice aq q.length cq), (24, vi q.length), (25, vi s.1)]) (fun s w' => s.1 ≤ q.length ∧ s.2 < l.length ∧ findGo l 0 q = findGo l s.2 (q.drop s.1) ∧ w1 = w') (fun s => q.length - s.1) (0, 0) ⟨rfl, rfl, rfl, rfl, rfl, trivial⟩ ⟨Nat.zero_le _, h0, rfl, rfl⟩ ?_
      rintro ⟨i, c⟩ G _ ⟨hi, hc, hgo, rfl⟩
      dsimp only at hi hc hgo
      simp only [upds]
      (repeat' (first | refine Wl.moveE (by conv => { lhs; whnf }) ?_ | refine Wl.assignE (by conv => { lhs; whnf }) ?_ | refine Wl.nil ?_ | refine Qseq.normal ?_ | refine Wc.seq ?_ | refine Wc.region ?_ | refine Wc.block ?_ | refine Wc.skip ?_ | refine Wc.exit ?_ | refine Wc.ret ?_ | refine Qseq.exit ?_ | refine Qsc.ret ?_ | refine Qblk.hit ?_ | refine Qloop.exit ?_ | refine Wc.condT rfl ?_ | refine Wc.condF rfl ?_ | refine Wl.lss rfl rfl (fun _ => ?_) (fun _ => ?_)))
      · obtain ⟨nm, hnm⟩ := get_lt q (k := i) (by omega)
        refine Wl.idxAddrV hq rfl rfl (by omega) hnm fun b o hcell => ?_
        refine Wl.load1 rfl hcell ?_
        (repeat' (first | refine Wl.moveE (by conv => { lhs; whnf }) ?_ | refine Wl.assignE (by conv => { lhs; whnf }) ?_ | refine Wl.nil ?_ | refine Qseq.normal ?_ | refine Wc.seq ?_ | refine Wc.region ?_ | refine Wc.block ?_ | refine Wl.add rfl rfl (by omega) (by omega) ?_))
        rw [drop_cons hnm] at hgo
        simp only [findGo] at hgo
        refine Wc.loop (σ := Nat) (fun k => [(0, .slice a l.length cap), (8, vi c), (10, vs nm), (11, vi k), (23, .slice aq q.length cq), (24, vi q.length), (25, vi i)]) (fun k w' => k ≤ l.length ∧ kidIn c nm (c + 1) (l.drop (c + 1)) = kidIn c nm k (l.drop k) ∧ w1 = w') (fun k => l.length - k) (c + 1) ⟨rfl, rfl, rfl, rfl, rfl, rfl, rfl, trivial⟩ ⟨by omega, rfl, rfl⟩ ?_
        rintro k G2 _ ⟨hk, hkid, rfl⟩
        simp only [upds]
        (repeat' (first | refine Wl.moveE (by conv => { lhs; whnf }) ?_ | refine Wl.assignE (by conv => { lhs; whnf }) ?_ | refine Wl.nil ?_ | refine Wl.lenS rfl ?_ | refine Qseq.normal ?_ | refine Wc.seq ?_ | refine Wc.region ?_ | refine Wc.block ?_ | refine Wc.skip ?_ | refine Wc.exit ?_ | refine Wc.ret ?_ | refine Qseq.exit ?_ | refine Qseq.ret ?_ | refine Qsc.ret ?_ | refine Qblk.ret ?_ | refine Qblk.hit ?_ | refine Qloop.exit ?_ | refine Qloop.ret ?_ | refine Wc.condT rfl ?_ | refine Wc.condF rfl ?_ | refine Wl.lss rfl rfl (fun _ => ?_) (fun _ => ?_)))
        · obtain ⟨x, hx⟩ := get_lt l (k := k) (by omega)
          rw [drop_cons hx] at hkid
          simp only [kidIn] at hkid
          refine Wl.idxAddrK h n1.keep rfl rfl (by omega) hx fun b' o' cs hl hR hat => ?_
          obtain ⟨pv, rfl, _⟩ := hR
          (repeat' (refine Wl.fieldAddr rfl rfl ?_))
          refine Wl.load1 rfl (hat.get 0 rfl) ?_
          (repeat' (first | refine Wl.moveE (by conv => { lhs; whnf }) ?_ | refine Wl.assignE (by conv => { lhs; whnf }) ?_ | refine Wl.nil ?_ | refine Wl.guardY rfl rfl ?_ | refine Wl.guardN rfl rfl ?_ | refine Wl.pickFE rfl (by conv => { lhs; whnf }) ?_ | refine Qseq.normal ?_ | refine Wc.region ?_ | refine Wc.skip ?_ | refine Qblk.normal ?_ | refine Wc.condF rfl ?_ | refine Wl.add rfl rfl (by omega) (by omega) ?_ | refine Wl.eql rfl rfl (fun _ => ?_) (fun _ => ?_)))
          · refine Wl.idxAddrK h n1.keep rfl rfl (by omega) hx fun b' o' cs hl hR hat => ?_
            obtain ⟨pv', rfl, _⟩ := hR
            (repeat' (first | refine Wl.guardY rfl rfl ?_ | refine Wl.fieldAddr rfl rfl ?_))
            refine Wl.load1 rfl (hat.get 1 rfl) ?_
            (repeat' (first | refine Wl.moveE (by conv => { lhs; whnf }) ?_ | refine Wl.assignE (by conv => { lhs; whnf }) ?_ | refine Wl.nil ?_ | refine Wl.guardY rfl rfl ?_ | refine Wl.pickTE rfl (by conv => { lhs; whnf }) ?_ | refine Qseq.normal ?_ | refine Wc.seq ?_ | refine Wc.region ?_ | refine Wc.skip ?_ | refine Wc.exit ?_ | refine Qseq.exit ?_ | refine Qblk.normal ?_ | refine Qblk.hit ?_ | refine Qblk.miss rfl ?_ | refine Qloop.exit ?_ | refine Wc.condT rfl ?_ | refine Wc.condF rfl ?_ | refine Wl.add rfl rfl (by omega) (by omega) ?_ | refine Wl.seql rfl rfl (fun _ => ?_) (fun _ => ?_)))
            · rw [if_pos ⟨by assumption, by assumption⟩] at hkid
              rw [hkid] at hgo
              refine Qloop.normal (i + 1, k) ⟨rfl, rfl, rfl, rfl, rfl, trivial⟩ ⟨by dsimp only; omega, by dsimp only; omega, hgo, rfl⟩ (by dsimp only; omega)
            · rw [if_neg (fun e => by have := e.2; contradiction)] at hkid
              exact Qloop.normal (k + 1) ⟨rfl, rfl, rfl, rfl, rfl, rfl, rfl, trivial⟩ ⟨by omega, hkid, rfl⟩ (by omega)
          · rw [if_neg (fun e => by have := e.1; contradiction)] at hkid
            exact Qloop.normal (k + 1) ⟨rfl, rfl, rfl, rfl, rfl, rfl, rfl, trivial⟩ ⟨by omega, hkid, rfl⟩ (by omega)
        · have e : k = l.length := by omega
          subst e
          rw [List.drop_length] at hkid
          simp only [kidIn] at hkid
          rw [hkid] at hgo
          simp only at hgo
          rw [hgo]
          exact Qfn.ret2 rfl rfl rfl ⟨_, rfl, rfl, n1⟩
      · have e : i = q.length := by omega
        subst e
        rw [List.drop_length] at hgo
        simp only [findGo] at hgo
        rw [hgo]
        exact Qfn.ret2 rfl rfl rfl ⟨_, rfl, rfl, n1⟩
theorem treeOk_pos {l : List Nd} (h : treeOk l = true) : 0 < l.length := by
  unfold treeOk at h
  simp only [Bool.and_eq_true, decide_eq_true_eq] at h
  exact h.2
/-- What tree.Find hands back. -/
def findR (l : List Nd) (s : List UInt8) : Int × Int := if treeOk l = true then (match findM l s with | some i => (i, 0) | none => (0, 6)) else (0, 40)
theorem Find_spec {Pb : Nat → Prop} {w : World} {v : Value} {l : List Nd} {s : List UInt8} (h : RdS rNd 3 Pb w v l) (hs : s.length ≤ 2000000) :
    Calls Tryd.prog 40 #[v, vs s] w (Ret fun r w' => r = .tuple #[vi (findR l s).1, vi (findR l s).2] ∧ New w w') := by
  refine calls_of_Wc Tryd.func40 rfl Tryd.ntmps40 rfl ?_
  (repeat' (first | refine Wl.moveE (by conv => { lhs; whnf }) ?_ | refine Wl.assignE (by conv => { lhs; whnf }) ?_ | refine Wl.nil ?_ | refine Qseq.normal ?_ | refine Wc.seq ?_ | refine Wc.region ?_))
  refine Wl.call (Check_spec h) rfl ?_
  rintro _ w1 ⟨rfl, n1⟩
  unfold treeE findR
  cases hok : treeOk l with
  | false =>
    rw [if_neg (by simp), if_neg (by simp)]
    (repeat' (first | refine Wl.moveE (by conv => { lhs; whnf }) ?_ | refine Wl.assignE (by conv => { lhs; whnf }) ?_ | refine Wl.nil ?_ | refine Wl.extract rfl rfl ?_ | refine Qseq.normal ?_ | refine Wc.seq ?_ | refine Wc.region ?_ | refine Wc.ret ?_ | refine Qseq.ret ?_ | refine Wc.condT rfl ?_ | (refine Wl.neq rfl rfl (fun _ => ?_) (fun _ => ?_) <;> (first | (exfalso; omega) | skip))))
    exact Qfn.ret2 rfl rfl rfl ⟨_, rfl, rfl, n1⟩
  | true =>
    rw [if_pos rfl, if_pos rfl]
    (repeat' (first | refine Wl.moveE (by conv => { lhs; whnf }) ?_ | refine Wl.assignE (by conv => { lhs; whnf }) ?_ | refine Wl.nil ?_ | refine Wl.extract rfl rfl ?_ | refine Qseq.normal ?_ | refine Wc.seq ?_ | refine Wc.region ?_ | refine Wc.skip ?_ | refine Wc.condF rfl ?_ | (refine Wl.neq rfl rfl (fun _ => ?_) (fun _ => ?_) <;> (first | (exfalso; omega) | skip))))
    refine Wl.call (find_spec (h.keep stableNd n1.keep) (treeOk_pos hok) hs) rfl ?_
    rintro _ w2 ⟨rfl, n2⟩
    cases findM l s with
    | none =>
      (repeat' (first | refine Wl.moveE (by conv => { lhs; whnf }) ?_ | refine Wl.assignE (by conv => { lhs; whnf }) ?_ | refine Wl.nil ?_ | refine Wl.extract rfl rfl ?_ | refine Qseq.normal ?_ | refine Wc.seq ?_ | refine Wc.region ?_ | refine Wc.skip ?_ | refine Wc.ret ?_ | refine Wc.condF rfl ?_))
      exact Qfn.ret2 rfl rfl rfl ⟨_, rfl, rfl, New.trans n1 n2⟩
    | some i =>
      (repeat' (first | refine Wl.moveE (by conv => { lhs; whnf }) ?_ | refine Wl.assignE (by conv => { lhs; whnf }) ?_ | refine Wl.nil ?_ | refine Wl.extract rfl rfl ?_ | refine Qseq.normal ?_ | refine Wc.seq ?_ | refine Wc.region ?_ | refine Wc.ret ?_ | refine Qseq.ret ?_ | refine Wc.condT rfl ?_))
      exact Qfn.ret2 rfl rfl rfl ⟨_, rfl, rfl, New.trans n1 n2⟩
end Go.Proofs.YtjpebmgllfiloaaDoor
