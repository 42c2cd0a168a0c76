/-
  The walk of the law's awake: the chapter's first example.
-/
import Derived.Test.YtjpebmgllfiloaaDoorPw
import Derived.Test.YtjpebmgllfiloaaDoorLit
namespace Go.Proofs.YtjpebmgllfiloaaDoor
open Go Wk
open Go.RowKit (Below)
attribute [local irreducible] Go.Calls

def awT : List Nd := [⟨-1, [], []⟩, ⟨0, [97], [([112], [49])]⟩, ⟨1, [120], []⟩, ⟨0, [98], []⟩]
def awP : Pc := ⟨[47, 97], [⟨-1, [], [([112], [50]), ([113], [51])]⟩, ⟨0, [120], [([114], [52])]⟩, ⟨0, [121], []⟩], []⟩
def awU : List Nd := [⟨-1, [], []⟩, ⟨0, [97], [([112], [50]), ([113], [51])]⟩, ⟨1, [120], [([114], [52])]⟩, ⟨1, [121], []⟩, ⟨0, [98], []⟩]
theorem aw_eval : layM awT awP = (awU, 0) := by kernel_rfl
theorem rNd0 {Pb : Nat → Prop} {w : World} (up : Int) (nm : List UInt8) : rNd Pb w ⟨up, nm, []⟩ [vi up, vs nm, .slice none 0 0] := ⟨_, rfl, RdS.nil⟩
set_option maxHeartbeats 1000000 in
set_option maxRecDepth 4000 in
theorem awake_spec {w : World} : Calls Tryd.prog 21 #[] w (Ret fun r w' => r = .bool true ∧ New w w') := by
  refine calls_of_Wc Tryd.func21 rfl Tryd.ntmps21 rfl ?_
  (repeat' (first | refine Wl.assignE (by conv => { lhs; whnf }) ?_ | refine Wl.nil ?_ | refine Qseq.normal ?_ | refine Wc.seq ?_ | refine Wc.region ?_))
  refine Wl.buildF (ps := [(0, .const (.int .i64 (-1)))]) (parts := [(0, vi (-1))]) rfl rfl (by simp [Value.cells]) ?_
  refine Wl.buildF (ps := [(0, .const (vs [112])), (1, .const (vs [49]))]) (parts := [(0, vs [112]), (1, vs [49])]) rfl rfl (by simp [Value.cells]) ?_
  refine Wl.buildSliceN (R := rPr) (N := 1) (ps := [(0, .tmp 5)]) (xs := [([112], [49])]) (us := [.agg (pC ([112], [49])).toArray]) (Pe := No) goodPr rfl rfl ⟨rfl, rfl, trivial⟩ (by simp) (by simp) fun v1 w1 o1 n1 s1 ob1 => ?_
  obtain ⟨a1, c1, rfl, _, _⟩ := o1.form
  refine Wl.buildF (ps := [(0, .const (.int .i64 0)), (1, .const (vs [97])), (2, .tmp 6)]) (parts := [(0, vi 0), (1, vs [97]), (2, .slice a1 1 c1)]) rfl rfl (by simp [Value.cells]) ?_
  refine Wl.buildF (ps := [(0, .const (.int .i64 1)), (1, .const (vs [120]))]) (parts := [(0, vi 1), (1, vs [120])]) rfl rfl (by simp [Value.cells]) ?_
  refine Wl.buildF (ps := [(0, .const (.int .i64 0)), (1, .const (vs [98]))]) (parts := [(0, vi 0), (1, vs [98])]) rfl rfl (by simp [Value.cells]) ?_
  have r1 := o1.rd (mono_flat pC)
  refine Wl.buildSliceN (R := rNd) (N := 4) (ps := [(0, .tmp 4), (1, .tmp 7), (2, .tmp 8), (3, .tmp 9)]) (xs := awT) (Pe := fun b => b = w.heap.size)
    (us := [.agg #[vi (-1), vs [], .slice none 0 0], .agg #[vi 0, vs [97], .slice a1 1 c1], .agg #[vi 1, vs [120], .slice none 0 0], .agg #[vi 0, vs [98], .slice none 0 0]]) goodNd rfl rfl
    ⟨rfl, rNd0 _ _, rfl, ⟨_, rfl, r1.mono (mono_flat pC) fun b hb h => by rcases h with h | h; exact ⟨h, by omega⟩; exact h.elim⟩, rfl, rNd0 _ _, rfl, rNd0 _ _, trivial⟩ (by simp) (by simp) fun tv w2 o2 n2 s2 ob2 => ?_
  (repeat' (first | refine Wl.moveE (by conv => { lhs; whnf }) ?_ | refine Wl.assignE (by conv => { lhs; whnf }) ?_ | refine Wl.nil ?_ | refine Qseq.normal ?_ | refine Wc.seq ?_ | refine Wc.region ?_))
  have rt := o2.rd monoNd
  refine Wl.buildF (ps := [(0, .const (vs [112])), (1, .const (vs [50]))]) (parts := [(0, vs [112]), (1, vs [50])]) rfl rfl (by simp [Value.cells]) ?_
  refine Wl.buildF (ps := [(0, .const (vs [113])), (1, .const (vs [51]))]) (parts := [(0, vs [113]), (1, vs [51])]) rfl rfl (by simp [Value.cells]) ?_
  refine Wl.buildSliceN (R := rPr) (N := 2) (ps := [(0, .tmp 13), (1, .tmp 14)]) (xs := [([112], [50]), ([113], [51])]) (us := [.agg (pC ([112], [50])).toArray, .agg (pC ([113], [51])).toArray]) (Pe := No) goodPr rfl rfl ⟨rfl, rfl, rfl, rfl, trivial⟩ (by simp) (by simp) fun v3 w3 o3 n3 s3 ob3 => ?_
  obtain ⟨a3, c3, rfl, _, _⟩ := o3.form
  refine Wl.buildF (ps := [(0, .const (.int .i64 (-1))), (2, .tmp 15)]) (parts := [(0, vi (-1)), (2, .slice a3 2 c3)]) rfl rfl (by simp [Value.cells]) ?_
  refine Wl.buildF (ps := [(0, .const (vs [114])), (1, .const (vs [52]))]) (parts := [(0, vs [114]), (1, vs [52])]) rfl rfl (by simp [Value.cells]) ?_
  refine Wl.buildSliceN (R := rPr) (N := 1) (ps := [(0, .tmp 17)]) (xs := [([114], [52])]) (us := [.agg (pC ([114], [52])).toArray]) (Pe := No) goodPr rfl rfl ⟨rfl, rfl, trivial⟩ (by simp) (by simp) fun v4 w4 o4 n4 s4 ob4 => ?_
  obtain ⟨a4, c4, rfl, _, _⟩ := o4.form
  refine Wl.buildF (ps := [(0, .const (.int .i64 0)), (1, .const (vs [120])), (2, .tmp 18)]) (parts := [(0, vi 0), (1, vs [120]), (2, .slice a4 1 c4)]) rfl rfl (by simp [Value.cells]) ?_
  refine Wl.buildF (ps := [(0, .const (.int .i64 0)), (1, .const (vs [121]))]) (parts := [(0, vi 0), (1, vs [121])]) rfl rfl (by simp [Value.cells]) ?_
  have r3 := (o3.rd (mono_flat pC)).keep (stable_flat pC) n4.keep
  have r4 := o4.rd (mono_flat pC)
  refine Wl.buildSliceN (R := rNd) (N := 3) (ps := [(0, .tmp 16), (1, .tmp 19), (2, .tmp 20)]) (xs := awP.nodes) (Pe := fun b => b < w4.heap.size)
    (us := [.agg #[vi (-1), vs [], .slice a3 2 c3], .agg #[vi 0, vs [120], .slice a4 1 c4], .agg #[vi 0, vs [121], .slice none 0 0]]) goodNd rfl rfl
    ⟨rfl, ⟨_, rfl, r3.mono (mono_flat pC) fun b hb h => ⟨hb, by omega⟩⟩, rfl, ⟨_, rfl, r4.mono (mono_flat pC) fun b hb h => ⟨hb, by omega⟩⟩, rfl, rNd0 _ _, trivial⟩ (by simp) (by simp) fun pv w5 o5 n5 s5 ob5 => ?_
  obtain ⟨a5, c5, rfl, _, _⟩ := o5.form
  refine Wl.buildF (ps := [(0, .const (vs [47, 97])), (1, .tmp 21)]) (parts := [(0, vs [47, 97]), (1, .slice a5 3 c5)]) rfl rfl (by simp [Value.cells]) ?_
  have n25 := New.trans (New.trans n3 n4) n5
  have rp := o5.rd monoNd
  refine Wl.call (Lay_spec (Pb := fun _ => True) (t := awT) (p := awP) (dv := .slice none 0 0) ((rt.keep stableNd n25.keep).mono monoNd fun _ _ _ => trivial) (rp.mono monoNd fun _ _ _ => trivial) RdS.nil (by decide)) rfl ?_
  rintro _ w6 ⟨uv, rfl, n6, lab, pvs, to6⟩
  rw [aw_eval] at to6 ⊢
  have ru := to6.rd
  obtain ⟨ua, uc, rfl, _, _⟩ := ru.form
  have hg : ∀ (i : Nat) (x : Nd), awU[i]? = some x → i < 5 := fun i x hx => (List.getElem?_eq_some_iff.1 hx).1
  (repeat' (first | refine Wl.moveE (by conv => { lhs; whnf }) ?_ | refine Wl.assignE (by conv => { lhs; whnf }) ?_ | refine Wl.nil ?_ | refine Wl.extract rfl rfl ?_ | refine Wl.guardY rfl rfl ?_ | refine Wl.pickTE rfl (by conv => { lhs; whnf }) ?_ | refine Wl.lenS rfl ?_ | refine Qseq.normal ?_ | refine Wc.seq ?_ | refine Wc.region ?_ | (refine Wl.eql rfl rfl (fun _ => ?_) (fun _ => ?_) <;> (first | (exfalso; omega) | (exfalso; contradiction) | skip))))
  refine Wl.idxAddr ru rfl rfl (by decide) (y := ⟨0, [97], [([112], [50]), ([113], [51])]⟩) rfl fun b0 o0 cs0 hl0 hR0 hat0 => ?_
  obtain ⟨pv0, rfl, hpr0⟩ := hR0
  (repeat' (first | refine Wl.guardY rfl rfl ?_ | refine Wl.fieldAddr rfl rfl ?_))
  refine Wl.load1 rfl (hat0.get 1 rfl) ?_
  (repeat' (refine Wl.guardY rfl rfl ?_))
  refine Wl.seqlSame rfl rfl ?_
  (repeat' (first | refine Wl.moveE (by conv => { lhs; whnf }) ?_ | refine Wl.guardY rfl rfl ?_ | refine Wl.pickTE rfl (by conv => { lhs; whnf }) ?_))
  refine Wl.idxAddr ru rfl rfl (by decide) (y := ⟨0, [97], [([112], [50]), ([113], [51])]⟩) rfl fun b1 o1 cs1 hl1 hR1 hat1 => ?_
  obtain ⟨pv1, rfl, hpr1⟩ := hR1
  obtain ⟨qa1, qc1, rfl, _, _⟩ := hpr1.form
  (repeat' (first | refine Wl.guardY rfl rfl ?_ | refine Wl.fieldAddr rfl rfl ?_))
  refine Wl.load1 rfl (hat1.get 2 rfl) ?_
  (repeat' (first | refine Wl.moveE (by conv => { lhs; whnf }) ?_ | refine Wl.guardY rfl rfl ?_ | refine Wl.pickTE rfl (by conv => { lhs; whnf }) ?_ | refine Wl.lenS rfl ?_ | (refine Wl.eql rfl rfl (fun _ => ?_) (fun _ => ?_) <;> (first | (exfalso; contradiction) | skip))))
  refine Wl.idxAddr ru rfl rfl (by decide) (y := ⟨0, [97], [([112], [50]), ([113], [51])]⟩) rfl fun b2 o2 cs2 hl2 hR2 hat2 => ?_
  obtain ⟨pv2, rfl, hpr2⟩ := hR2
  obtain ⟨qa2, qc2, rfl, _, _⟩ := hpr2.form
  (repeat' (first | refine Wl.guardY rfl rfl ?_ | refine Wl.fieldAddr rfl rfl ?_))
  refine Wl.load1 rfl (hat2.get 2 rfl) ?_
  (repeat' (refine Wl.guardY rfl rfl ?_))
  refine Wl.idxAddr hpr2 rfl rfl (by decide) (y := ([112], [50])) rfl fun b o cs hl hR hat => ?_
  obtain rfl : cs = pC ([112], [50]) := hR
  (repeat' (first | refine Wl.guardY rfl rfl ?_ | refine Wl.fieldAddr rfl rfl ?_))
  refine Wl.load1 rfl (hat.get 1 rfl) ?_
  (repeat' (refine Wl.guardY rfl rfl ?_))
  refine Wl.seqlSame rfl rfl ?_
  (repeat' (first | refine Wl.moveE (by conv => { lhs; whnf }) ?_ | refine Wl.guardY rfl rfl ?_ | refine Wl.pickTE rfl (by conv => { lhs; whnf }) ?_))
  refine Wl.idxAddr ru rfl rfl (by decide) (y := ⟨1, [120], [([114], [52])]⟩) rfl fun b3 o3 cs3 hl3 hR3 hat3 => ?_
  obtain ⟨pv3, rfl, hpr3⟩ := hR3
  (repeat' (first | refine Wl.guardY rfl rfl ?_ | refine Wl.fieldAddr rfl rfl ?_))
  refine Wl.load1 rfl (hat3.get 1 rfl) ?_
  (repeat' (refine Wl.guardY rfl rfl ?_))
  refine Wl.seqlSame rfl rfl ?_
  (repeat' (first | refine Wl.moveE (by conv => { lhs; whnf }) ?_ | refine Wl.guardY rfl rfl ?_ | refine Wl.pickTE rfl (by conv => { lhs; whnf }) ?_))
  refine Wl.idxAddr ru rfl rfl (by decide) (y := ⟨1, [120], [([114], [52])]⟩) rfl fun b4 o4 cs4 hl4 hR4 hat4 => ?_
  obtain ⟨pv4, rfl, hpr4⟩ := hR4
  obtain ⟨qa4, qc4, rfl, _, _⟩ := hpr4.form
  (repeat' (first | refine Wl.guardY rfl rfl ?_ | refine Wl.fieldAddr rfl rfl ?_))
  refine Wl.load1 rfl (hat4.get 2 rfl) ?_
  (repeat' (first | refine Wl.moveE (by conv => { lhs; whnf }) ?_ | refine Wl.guardY rfl rfl ?_ | refine Wl.pickTE rfl (by conv => { lhs; whnf }) ?_ | refine Wl.lenS rfl ?_ | (refine Wl.eql rfl rfl (fun _ => ?_) (fun _ => ?_) <;> (first | (exfalso; contradiction) | skip))))
  refine Wl.idxAddr ru rfl rfl (by decide) (y := ⟨1, [121], []⟩) rfl fun b5 o5 cs5 hl5 hR5 hat5 => ?_
  obtain ⟨pv5, rfl, hpr5⟩ := hR5
  (repeat' (first | refine Wl.guardY rfl rfl ?_ | refine Wl.fieldAddr rfl rfl ?_))
  refine Wl.load1 rfl (hat5.get 1 rfl) ?_
  (repeat' (refine Wl.guardY rfl rfl ?_))
  refine Wl.seqlSame rfl rfl ?_
  (repeat' (first | refine Wl.moveE (by conv => { lhs; whnf }) ?_ | refine Wl.guardY rfl rfl ?_ | refine Wl.pickTE rfl (by conv => { lhs; whnf }) ?_))
  refine Wl.idxAddr ru rfl rfl (by decide) (y := ⟨1, [121], []⟩) rfl fun b6 o6 cs6 hl6 hR6 hat6 => ?_
  obtain ⟨pv6, rfl, hpr6⟩ := hR6
  (repeat' (first | refine Wl.guardY rfl rfl ?_ | refine Wl.fieldAddr rfl rfl ?_))
  refine Wl.load1 rfl (hat6.get 0 rfl) ?_
  (repeat' (first | refine Wl.moveE (by conv => { lhs; whnf }) ?_ | refine Wl.guardY rfl rfl ?_ | refine Wl.pickTE rfl (by conv => { lhs; whnf }) ?_ | (refine Wl.eql rfl rfl (fun _ => ?_) (fun _ => ?_) <;> (first | (exfalso; contradiction) | skip))))
  refine Wl.idxAddr ru rfl rfl (by decide) (y := ⟨0, [98], []⟩) rfl fun b7 o7 cs7 hl7 hR7 hat7 => ?_
  obtain ⟨pv7, rfl, hpr7⟩ := hR7
  (repeat' (first | refine Wl.guardY rfl rfl ?_ | refine Wl.fieldAddr rfl rfl ?_))
  refine Wl.load1 rfl (hat7.get 1 rfl) ?_
  (repeat' (refine Wl.guardY rfl rfl ?_))
  refine Wl.seqlSame rfl rfl ?_
  (repeat' (first | refine Wl.moveE (by conv => { lhs; whnf }) ?_ | refine Wl.guardY rfl rfl ?_ | refine Wl.pickTE rfl (by conv => { lhs; whnf }) ?_))
  refine Wl.idxAddr ru rfl rfl (by decide) (y := ⟨0, [98], []⟩) rfl fun b8 o8 cs8 hl8 hR8 hat8 => ?_
  obtain ⟨pv8, rfl, hpr8⟩ := hR8
  (repeat' (first | refine Wl.guardY rfl rfl ?_ | refine Wl.fieldAddr rfl rfl ?_))
  refine Wl.load1 rfl (hat8.get 0 rfl) ?_
  (repeat' (first | refine Wl.assignE (by conv => { lhs; whnf }) ?_ | refine Wl.nil ?_ | refine Wl.guardY rfl rfl ?_ | refine Wl.pickTE rfl (by conv => { lhs; whnf }) ?_ | refine Qseq.normal ?_ | refine Wc.ret ?_ | (refine Wl.eql rfl rfl (fun _ => ?_) (fun _ => ?_) <;> (first | (exfalso; contradiction) | skip))))
  exact Qfn.ret1 rfl rfl ⟨_, rfl, rfl, New.trans (New.trans (New.trans n1 n2) n25) n6⟩
end Go.Proofs.YtjpebmgllfiloaaDoor
