/-
  The walk of overlay.Check: what is wrong with a piece.
-/
import Derived.Test.YtjpebmgllfiloaaDoorIx
import Derived.Test.YtjpebmgllfiloaaDoorLex
namespace Go.Proofs.YtjpebmgllfiloaaDoor
open Go Wk
open Go.RowKit (Below)
attribute [local irreducible] Go.Calls

/-- A piece by value. -/
structure Pc where
  target : List UInt8
  nodes : List Nd
  drop : List (List UInt8)
def dropGo (ps : List Pr) (seen : List (List UInt8)) : List (List UInt8) → Bool
  | [] => true
  | s :: r => nameOk s && (!seen.contains s && (!ps.any (fun y => decide (y.1 = s)) && dropGo ps (seen ++ [s]) r))
def pieceOk (p : Pc) : Bool := treeOk p.nodes && (decide (p.drop.length ≤ 32) && dropGo (match p.nodes with | x :: _ => x.props | [] => []) [] p.drop)
def pieceE (p : Pc) : Int := if pieceOk p = true then 0 else 50
structure RdPc (Pb : Nat → Prop) (w : World) (cs : List Value) (p : Pc) : Prop where
  ex : ∃ nv dv, cs = [vs p.target, nv, dv] ∧ RdS rNd 3 Pb w nv p.nodes ∧ RdS (one vs) 1 Pb w dv p.drop
set_option maxHeartbeats 2000000 in
set_option maxRecDepth 4000 in
theorem CheckP_spec {Pb : Nat → Prop} {w : World} {nv dv : Value} {p : Pc} (hn : RdS rNd 3 Pb w nv p.nodes) (hd : RdS (one vs) 1 Pb w dv p.drop) :
    Calls Tryd.prog 13 #[.agg #[vs p.target, nv, dv]] w (Ret fun r w' => r = vi (pieceE p) ∧ New w w') := by
  obtain ⟨na, nc, rfl, _, _⟩ := hn.form
  obtain ⟨da, dc, rfl, hdc1, hdc2⟩ := hd.form
  simp only [maxLen] at hdc2
  refine calls_of_Wc Tryd.func13 rfl Tryd.ntmps13 rfl ?_
  unfold pieceE pieceOk
  (repeat' (first | refine Wc.seq ?_ | refine Wc.region ?_))
  refine Wl.box rfl fun w1 b1 n1 s1 => ?_
  replace b1 : Bk w1 w.heap.size 25 [vs p.target, .slice na p.nodes.length nc, .slice da p.drop.length dc] := b1
  (repeat' (first | refine Wl.assignE (by conv => { lhs; whnf }) ?_ | refine Wl.nil ?_ | refine Qseq.normal ?_ | refine Wc.seq ?_ | refine Wc.region ?_ | refine Wl.fieldAddr rfl rfl ?_))
  refine Wl.load1 rfl (b1.cell (o := 1) rfl) ?_
  refine Wl.call (may_spec (hn.keep stableNd n1.keep)) rfl ?_
  rintro _ w2 ⟨rfl, n2⟩
  have b2 := b1.chg n2 id
  replace n2 := New.trans n1 n2
  cases hok : treeOk p.nodes with
  | false =>
    rw [Bool.false_and, if_neg (by simp)]
    (repeat' (first | refine Wl.moveE (by conv => { lhs; whnf }) ?_ | refine Wl.assignE (by conv => { lhs; whnf }) ?_ | refine Wl.nil ?_ | refine Wl.guardN rfl rfl ?_ | refine Wl.pickTE rfl (by conv => { lhs; whnf }) ?_ | refine Wl.notB rfl ?_ | refine Qseq.normal ?_ | refine Wc.seq ?_ | refine Wc.region ?_ | refine Wc.ret ?_ | refine Qseq.ret ?_ | refine Wc.condT rfl ?_))
    exact Qfn.ret1 rfl rfl ⟨_, rfl, rfl, n2⟩
  | true =>
    rw [Bool.true_and]
    (repeat' (first | refine Wl.moveE (by conv => { lhs; whnf }) ?_ | refine Wl.guardY rfl rfl ?_ | refine Wl.notB rfl ?_ | refine Wl.fieldAddr rfl rfl ?_))
    refine Wl.load1 rfl (b2.cell (o := 2) rfl) ?_
    (repeat' (first | refine Wl.assignE (by conv => { lhs; whnf }) ?_ | refine Wl.nil ?_ | refine Wl.guardY rfl rfl ?_ | refine Wl.pickFE rfl (by conv => { lhs; whnf }) ?_ | refine Wl.lenS rfl ?_ | refine Qseq.normal ?_ | refine Wc.seq ?_ | refine Wc.region ?_ | refine Wc.skip ?_ | refine Wc.ret ?_ | refine Qseq.ret ?_ | refine Wc.condT rfl ?_ | refine Wc.condF rfl ?_ | refine Wl.fieldAddr rfl rfl ?_ | refine Wl.gtr rfl rfl (fun _ => ?_) (fun _ => ?_)))
    · rw [decide_eq_false (by omega), Bool.false_and, if_neg (by simp)]
      exact Qfn.ret1 rfl rfl ⟨_, rfl, rfl, n2⟩
    · rw [decide_eq_true (by omega), Bool.true_and]
      refine Wl.load1 rfl (b2.cell (o := 2) rfl) ?_
      obtain ⟨x0, hx0⟩ := get_lt p.nodes (k := 0) (treeOk_pos hok)
      have hm : (match p.nodes with | x :: _ => x.props | [] => []) = x0.props := by
        cases hpn : p.nodes with
        | nil => rw [hpn] at hx0; cases hx0
        | cons y r => rw [hpn] at hx0; simp at hx0; rw [hx0]
      rw [hm]
      (repeat' (first | refine Wl.moveE (by conv => { lhs; whnf }) ?_ | refine Wl.nil ?_ | refine Wl.lenS rfl ?_ | refine Qseq.normal ?_ | refine Wc.block ?_))
      refine Wc.loop (σ := Nat) (fun i => [(1, ptrV w.heap.size), (16, .slice da p.drop.length dc), (17, vi p.drop.length), (18, vi i)]) (fun i w' => i ≤ p.drop.length ∧ dropGo x0.props [] p.drop = dropGo x0.props (p.drop.take i) (p.drop.drop i) ∧ Bk w' w.heap.size 25 [vs p.target, .slice na p.nodes.length nc, .slice da p.drop.length dc] ∧ New w w') (fun i => p.drop.length - i) 0 ⟨rfl, rfl, rfl, rfl, trivial⟩ ⟨Nat.zero_le _, rfl, b2, n2⟩ ?_
      rintro i G w3 ⟨hi, hgo, b3, n3⟩
      simp only [upds]
      (repeat' (first | refine Wl.moveE (by conv => { lhs; whnf }) ?_ | refine Wl.assignE (by conv => { lhs; whnf }) ?_ | refine Wl.nil ?_ | refine Qseq.normal ?_ | refine Wc.seq ?_ | refine Wc.region ?_ | refine Wc.block ?_ | refine Wc.skip ?_ | refine Wc.exit ?_ | refine Wc.ret ?_ | refine Qseq.exit ?_ | refine Qblk.hit ?_ | refine Qloop.exit ?_ | refine Wc.condT rfl ?_ | refine Wc.condF rfl ?_ | refine Wl.lss rfl rfl (fun _ => ?_) (fun _ => ?_)))
      · obtain ⟨s, hs⟩ := get_lt p.drop (k := i) (by omega)
        refine Wl.idxAddrV (hd.keep (stable_one _) n3.keep) rfl rfl (by omega) hs fun b o hc => ?_
        refine Wl.load1 rfl hc ?_
        rw [drop_cons hs] at hgo
        simp only [dropGo] at hgo
        (repeat' (first | refine Wl.assignE (by conv => { lhs; whnf }) ?_ | refine Wl.nil ?_ | refine Qseq.normal ?_ | refine Wc.seq ?_))
        refine Wc.regionT rfl (by kernel_rfl) (New w3) (Chg.drew _ _) ?_
        intro w4 n4
        (repeat' (refine Wt.quiet rfl (Wq.moveE (by conv => { lhs; whnf }) (Wq.nil ?_))))
        refine Wt.chain rfl (Wl.call (Name_spec (s := s)) rfl ?_)
        rintro _ w5 ⟨rfl, n5⟩
        have n35 := New.trans n4 n5
        refine Wl.nil ⟨rfl, n35, ?_⟩
        (repeat' (first | refine Wt.nil ?_ | refine Wt.guardY rfl rfl ?_ | refine Wt.guardN rfl rfl (by assumption) ?_ | refine Wt.quiet rfl (Wq.moveE (by conv => { lhs; whnf }) (Wq.nil ?_)) | refine Wt.quiet rfl (Wq.pickTE rfl (by conv => { lhs; whnf }) (Wq.nil ?_)) | refine Wt.quiet rfl (Wq.fieldAddr rfl rfl (Wq.nil ?_)) | refine Wt.quiet rfl (Wq.neq rfl rfl (fun _ => Wq.nil ?_) (fun _ => Wq.nil ?_))))
        · (repeat' (first | refine Wl.assignE (by conv => { lhs; whnf }) ?_ | refine Wl.nil ?_ | refine Qseq.normal ?_ | refine Wc.seq ?_ | refine Wc.region ?_ | refine Wc.ret ?_ | refine Qseq.ret ?_ | refine Qblk.ret ?_ | refine Qloop.ret ?_ | refine Wc.condT rfl ?_))
          rw [hgo, nameNo_bad (by assumption), Bool.false_and, if_neg (by simp)]
          exact Qfn.ret1 rfl rfl ⟨_, rfl, rfl, New.trans n3 n35⟩
        · have hnm := nameNo_ok (by assumption)
          rw [hnm, Bool.true_and] at hgo
          refine Wt.quiet rfl (Wq.load1 rfl (fun w' hw => (b3.chg hw id).cell (o := 2) rfl) (Wq.nil ?_))
          (repeat' (first | refine Wt.guardY rfl rfl ?_ | refine Wt.quiet rfl (Wq.moveE (by conv => { lhs; whnf }) (Wq.nil ?_))))
          refine Wt.quiet rfl (Wq.sliceTo (hd.keep (stable_one _) n3.keep) rfl rfl (by omega) (by omega) fun v' hv' => Wq.nil ?_)
          rw [Int.toNat_natCast] at hv'
          (repeat' (first | refine Wt.guardY rfl rfl ?_ | refine Wt.quiet rfl (Wq.moveE (by conv => { lhs; whnf }) (Wq.nil ?_))))
          refine Wt.chain rfl (Wl.call (ContainsStr_spec (s := s) (hv'.keep (stable_one _) n35.keep)) rfl ?_)
          rintro _ w6 ⟨rfl, n6⟩
          have n36 := New.trans n35 n6
          refine Wl.nil ⟨rfl, n36, ?_⟩
          cases hcon : (p.drop.take i).contains s with
          | true =>
            (repeat' (first | refine Wt.nil ?_ | refine Wt.guardN rfl rfl (by assumption) ?_ | refine Wt.quiet rfl (Wq.moveE (by conv => { lhs; whnf }) (Wq.nil ?_)) | refine Wt.quiet rfl (Wq.pickTE rfl (by conv => { lhs; whnf }) (Wq.nil ?_)) | refine Wt.quiet rfl (Wq.pickFE rfl (by conv => { lhs; whnf }) (Wq.nil ?_))))
            (repeat' (first | refine Wl.assignE (by conv => { lhs; whnf }) ?_ | refine Wl.nil ?_ | refine Qseq.normal ?_ | refine Wc.seq ?_ | refine Wc.region ?_ | refine Wc.ret ?_ | refine Qseq.ret ?_ | refine Qblk.ret ?_ | refine Qloop.ret ?_ | refine Wc.condT rfl ?_))
            rw [hgo, hcon, Bool.not_true, Bool.false_and, if_neg (by simp)]
            exact Qfn.ret1 rfl rfl ⟨_, rfl, rfl, New.trans n3 n36⟩
          | false =>
            rw [hcon, Bool.not_false, Bool.true_and] at hgo
            (repeat' (first | refine Wt.guardY rfl rfl ?_ | refine Wt.quiet rfl (Wq.moveE (by conv => { lhs; whnf }) (Wq.nil ?_)) | refine Wt.quiet rfl (Wq.pickFE rfl (by conv => { lhs; whnf }) (Wq.nil ?_)) | refine Wt.quiet rfl (Wq.fieldAddr rfl rfl (Wq.nil ?_))))
            refine Wt.quiet rfl (Wq.load1 rfl (fun w' hw => (b3.chg hw id).cell (o := 1) rfl) (Wq.nil ?_))
            (repeat' (refine Wt.guardY rfl rfl ?_))
            refine Wt.quiet rfl (Wq.idxAddr (hn.keep stableNd n3.keep) (fun w' hw => hw.keep) rfl rfl (by omega) hx0 fun b2 o2 cs hl hR hat => Wq.nil ?_)
            obtain ⟨pv, rfl, hpr⟩ := hR
            (repeat' (first | refine Wt.guardY rfl rfl ?_ | refine Wt.quiet rfl (Wq.fieldAddr rfl rfl (Wq.nil ?_))))
            refine Wt.quiet rfl (Wq.load1 rfl (fun w' hw => (hat w' hw).get 2 rfl) (Wq.nil ?_))
            (repeat' (first | refine Wt.guardY rfl rfl ?_ | refine Wt.quiet rfl (Wq.moveE (by conv => { lhs; whnf }) (Wq.nil ?_))))
            refine Wt.chain rfl (Wl.call (named_spec (name := s)) rfl ?_)
            rintro _ w7 ⟨nb, rfl, hnb, n7⟩
            have n37 := New.trans n36 n7
            refine Wl.nil ⟨rfl, n37, ?_⟩
            (repeat' (refine Wt.guardY rfl rfl ?_))
            refine Wt.chain rfl (Wl.call (ContainsFuncPr_spec (p := fun y => decide (y.1 = s)) (g := 74) (cap := #[ptrV nb]) (hpr.keep (stable_flat pC) n37.keep) (fun y w' _ hw => named1_spec (hnb.chg hw id))) rfl ?_)
            rintro _ w8 ⟨rfl, n8⟩
            have n38 := New.trans n37 n8
            refine Wl.nil ⟨rfl, n38, ?_⟩
            cases hany : x0.props.any (fun y => decide (y.1 = s)) with
            | true =>
              (repeat' (first | refine Wt.nil ?_ | refine Wt.quiet rfl (Wq.pickFE rfl (by conv => { lhs; whnf }) (Wq.nil ?_))))
              (repeat' (first | refine Wl.assignE (by conv => { lhs; whnf }) ?_ | refine Wl.nil ?_ | refine Qseq.normal ?_ | refine Wc.seq ?_ | refine Wc.region ?_ | refine Wc.ret ?_ | refine Qseq.ret ?_ | refine Qblk.ret ?_ | refine Qloop.ret ?_ | refine Wc.condT rfl ?_))
              rw [hgo, hany, Bool.not_true, Bool.false_and, if_neg (by simp)]
              exact Qfn.ret1 rfl rfl ⟨_, rfl, rfl, New.trans n3 n38⟩
            | false =>
              rw [hany, Bool.not_false, Bool.true_and] at hgo
              (repeat' (first | refine Wt.nil ?_ | refine Wt.quiet rfl (Wq.pickFE rfl (by conv => { lhs; whnf }) (Wq.nil ?_))))
              (repeat' (first | refine Wl.moveE (by conv => { lhs; whnf }) ?_ | refine Wl.nil ?_ | refine Qseq.normal ?_ | refine Wc.region ?_ | refine Wc.skip ?_ | refine Qblk.normal ?_ | refine Wc.condF rfl ?_ | refine Wl.add rfl rfl (by omega) (by omega) ?_))
              exact Qloop.normal (i + 1) ⟨rfl, rfl, rfl, rfl, trivial⟩ ⟨by omega, by rw [hgo, take_snoc hs], b3.chg n38 id, New.trans n3 n38⟩ (by omega)
      · have e : i = p.drop.length := by omega
        subst e
        rw [List.drop_length] at hgo
        rw [hgo, dropGo, if_pos rfl]
        exact Qfn.ret1 rfl rfl ⟨_, rfl, rfl, n3⟩
end Go.Proofs.YtjpebmgllfiloaaDoor
