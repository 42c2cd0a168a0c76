/-
  Texts of this claim, one behind the other: Xg, Xh, Ru, Xi, Xj, Xv, Br, Xw, Xx, Xy, Xk.
-/
import Derived.Test.YtjaendlcijmifaaGreatDoorZc
import Derived.Lib.ItoaNum
import Derived.Lib.ItoaMem
import Derived.Lib.AppendIntMem
import Derived.OrdersIn
import Derived.Lib.ParseIntB
import Derived.Lib.ParseIntBCases
namespace Go.Proofs.YtjaendlcijmifaaGreatDoor
open Go Wk
open Go.RowKit (Below)
attribute [local irreducible] Go.Calls

set_option maxHeartbeats 1000000 in
theorem events_spec {Pb : Nat → Prop} {w : World} {v : Value} {l : List Ev} (h : RdS rEv 6 Pb w v l) (hl : l.length ≤ 2000000) :
    Calls Tryz.prog 7 #[v] w (Ret fun r w' => OwnS rEv 26 6 (fun b => w.heap.size ≤ b) No w' r l ∧ New w w') := by
  obtain ⟨a, cp, rfl, hc1, hc2⟩ := h.form
  simp only [maxLen] at hc2
  refine calls_of_Wc Tryz.func7 rfl Tryz.ntmps7 rfl ?_
  (repeat' (first | refine Wl.moveE (by conv => { lhs; whnf }) ?_ | refine Wl.assignE (by conv => { lhs; whnf }) ?_ | refine Wl.nil ?_ | refine Wl.extract rfl rfl ?_ | refine Wl.guardY rfl rfl ?_ | refine Wl.guardN rfl rfl ?_ | refine Wl.guardU rfl ?_ | refine Wl.pickTE rfl (by conv => { lhs; whnf }) ?_ | refine Wl.pickFE rfl (by conv => { lhs; whnf }) ?_ | refine Wl.notB rfl ?_ | refine Wl.lenS rfl ?_ | refine Wl.lenStr rfl ?_ | refine Qseq.normal ?_ | refine Wc.seq ?_ | refine Wc.region ?_ | refine Wc.block ?_ | refine Wc.skip ?_ | refine Wc.exit ?_ | refine Wc.ret ?_ | refine Qseq.exit ?_ | refine Qseq.ret ?_ | refine Wc.scope ?_ | refine Wc.label ?_ | refine Qsc.normal ?_ | refine Qsc.exit ?_ | refine Qsc.ret ?_ | refine Qblk.normal ?_ | refine Qblk.ret ?_ | refine Qblk.hit ?_ | refine Qblk.miss rfl ?_ | refine Qloop.exit ?_ | refine Qloop.ret ?_ | refine Wc.condT rfl ?_ | refine Wc.condF rfl ?_ | refine Wl.nilP rfl ?_ | refine Wl.fieldAddr rfl rfl ?_ | refine Wl.nilF rfl ?_ | refine Wl.add rfl rfl (by omega) (by omega) ?_ | refine Wl.sub rfl rfl (by omega) (by omega) ?_ | refine Wl.mul rfl rfl (by omega) (by omega) ?_ | refine Wl.convI rfl ?_ | (refine Wl.lss rfl rfl (fun _ => ?_) (fun _ => ?_) <;> (first | (exfalso; omega) | (exfalso; contradiction) | skip)) | (refine Wl.leq rfl rfl (fun _ => ?_) (fun _ => ?_) <;> (first | (exfalso; omega) | (exfalso; contradiction) | skip)) | (refine Wl.gtr rfl rfl (fun _ => ?_) (fun _ => ?_) <;> (first | (exfalso; omega) | (exfalso; contradiction) | skip)) | (refine Wl.geq rfl rfl (fun _ => ?_) (fun _ => ?_) <;> (first | (exfalso; omega) | (exfalso; contradiction) | skip)) | (refine Wl.eql rfl rfl (fun _ => ?_) (fun _ => ?_) <;> (first | (exfalso; omega) | (exfalso; contradiction) | skip)) | (refine Wl.neq rfl rfl (fun _ => ?_) (fun _ => ?_) <;> (first | (exfalso; omega) | (exfalso; contradiction) | skip)) | (refine Wl.seql rfl rfl (fun _ => ?_) (fun _ => ?_) <;> (first | (exfalso; omega) | (exfalso; contradiction) | skip)) | (refine Wl.sneq rfl rfl (fun _ => ?_) (fun _ => ?_) <;> (first | (exfalso; omega) | (exfalso; contradiction) | skip))))
  refine Wc.loop (σ := Nat × Value) (fun s => [(0, .slice a l.length cp), (3, s.2), (4, vi s.1)]) (fun s w' => s.1 ≤ l.length ∧ OwnS rEv 26 6 (fun b => w.heap.size ≤ b) No w' s.2 (l.take s.1) ∧ New w w') (fun s => l.length - s.1) (0, .slice none 0 0) ⟨rfl, rfl, rfl, trivial⟩ ⟨Nat.zero_le _, OwnS.nil, Chg.refl _ _⟩ ?_
  rintro ⟨i, g⟩ G w1 ⟨hi, og, n1⟩
  dsimp only at hi og
  simp only [upds]
  (repeat' (first | refine Wl.moveE (by conv => { lhs; whnf }) ?_ | refine Wl.assignE (by conv => { lhs; whnf }) ?_ | refine Wl.nil ?_ | refine Wl.extract rfl rfl ?_ | refine Wl.guardY rfl rfl ?_ | refine Wl.guardN rfl rfl ?_ | refine Wl.guardU rfl ?_ | refine Wl.pickTE rfl (by conv => { lhs; whnf }) ?_ | refine Wl.pickFE rfl (by conv => { lhs; whnf }) ?_ | refine Wl.notB rfl ?_ | refine Wl.lenS rfl ?_ | refine Wl.lenStr rfl ?_ | refine Qseq.normal ?_ | refine Wc.seq ?_ | refine Wc.region ?_ | refine Wc.block ?_ | refine Wc.skip ?_ | refine Wc.exit ?_ | refine Wc.ret ?_ | refine Qseq.exit ?_ | refine Qseq.ret ?_ | refine Wc.scope ?_ | refine Wc.label ?_ | refine Qsc.normal ?_ | refine Qsc.exit ?_ | refine Qsc.ret ?_ | refine Qblk.normal ?_ | refine Qblk.ret ?_ | refine Qblk.hit ?_ | refine Qblk.miss rfl ?_ | refine Qloop.exit ?_ | refine Qloop.ret ?_ | refine Wc.condT rfl ?_ | refine Wc.condF rfl ?_ | refine Wl.nilP rfl ?_ | refine Wl.fieldAddr rfl rfl ?_ | refine Wl.nilF rfl ?_ | refine Wl.add rfl rfl (by omega) (by omega) ?_ | refine Wl.sub rfl rfl (by omega) (by omega) ?_ | refine Wl.mul rfl rfl (by omega) (by omega) ?_ | refine Wl.convI rfl ?_ | (refine Wl.lss rfl rfl (fun _ => ?_) (fun _ => ?_) <;> (first | (exfalso; omega) | (exfalso; contradiction) | skip)) | (refine Wl.leq rfl rfl (fun _ => ?_) (fun _ => ?_) <;> (first | (exfalso; omega) | (exfalso; contradiction) | skip)) | (refine Wl.gtr rfl rfl (fun _ => ?_) (fun _ => ?_) <;> (first | (exfalso; omega) | (exfalso; contradiction) | skip)) | (refine Wl.geq rfl rfl (fun _ => ?_) (fun _ => ?_) <;> (first | (exfalso; omega) | (exfalso; contradiction) | skip)) | (refine Wl.eql rfl rfl (fun _ => ?_) (fun _ => ?_) <;> (first | (exfalso; omega) | (exfalso; contradiction) | skip)) | (refine Wl.neq rfl rfl (fun _ => ?_) (fun _ => ?_) <;> (first | (exfalso; omega) | (exfalso; contradiction) | skip)) | (refine Wl.seql rfl rfl (fun _ => ?_) (fun _ => ?_) <;> (first | (exfalso; omega) | (exfalso; contradiction) | skip)) | (refine Wl.sneq rfl rfl (fun _ => ?_) (fun _ => ?_) <;> (first | (exfalso; omega) | (exfalso; contradiction) | skip))))
  · obtain ⟨y, hy⟩ := get_lt l (k := i) (by omega)
    refine Wl.idxAddr (h.keep (stable_flat _) n1.keep) rfl rfl (by omega) (by rw [Int.toNat_natCast]; exact hy) fun bb o cs hcl hR hat => ?_
    obtain rfl : cs = evC y := hR
    refine Wl.loadAt hat rfl rfl ?_
    refine Wl.alloc fun w2 b2 n2 s2 => ?_
    refine Wl.storeB (o := 0) (new := evC y) b2 rfl rfl rfl rfl (Nat.le_refl 6) (evC_one _) fun w3 b3 c3 s3 => ?_
    replace b3 : Bk w3 w1.heap.size 27 (evC y) := b3
    have n13 : New w1 w3 := Chg.trans n2 c3 fun _ _ e => by omega
    have og3 := og.new (plain_flat _) n13
    have s1 := n1.size
    (repeat' (first | refine Wl.moveE (by conv => { lhs; whnf }) ?_ | refine Wl.assignE (by conv => { lhs; whnf }) ?_ | refine Wl.nil ?_ | refine Wl.extract rfl rfl ?_ | refine Wl.guardY rfl rfl ?_ | refine Wl.guardN rfl rfl ?_ | refine Wl.guardU rfl ?_ | refine Wl.pickTE rfl (by conv => { lhs; whnf }) ?_ | refine Wl.pickFE rfl (by conv => { lhs; whnf }) ?_ | refine Wl.notB rfl ?_ | refine Wl.lenS rfl ?_ | refine Wl.lenStr rfl ?_ | refine Qseq.normal ?_ | refine Wc.seq ?_ | refine Wc.region ?_ | refine Wc.block ?_ | refine Wc.skip ?_ | refine Wc.exit ?_ | refine Wc.ret ?_ | refine Qseq.exit ?_ | refine Qseq.ret ?_ | refine Wc.scope ?_ | refine Wc.label ?_ | refine Qsc.normal ?_ | refine Qsc.exit ?_ | refine Qsc.ret ?_ | refine Qblk.normal ?_ | refine Qblk.ret ?_ | refine Qblk.hit ?_ | refine Qblk.miss rfl ?_ | refine Qloop.exit ?_ | refine Qloop.ret ?_ | refine Wc.condT rfl ?_ | refine Wc.condF rfl ?_ | refine Wl.nilP rfl ?_ | refine Wl.fieldAddr rfl rfl ?_ | refine Wl.nilF rfl ?_ | refine Wl.add rfl rfl (by omega) (by omega) ?_ | refine Wl.sub rfl rfl (by omega) (by omega) ?_ | refine Wl.mul rfl rfl (by omega) (by omega) ?_ | refine Wl.convI rfl ?_ | (refine Wl.lss rfl rfl (fun _ => ?_) (fun _ => ?_) <;> (first | (exfalso; omega) | (exfalso; contradiction) | skip)) | (refine Wl.leq rfl rfl (fun _ => ?_) (fun _ => ?_) <;> (first | (exfalso; omega) | (exfalso; contradiction) | skip)) | (refine Wl.gtr rfl rfl (fun _ => ?_) (fun _ => ?_) <;> (first | (exfalso; omega) | (exfalso; contradiction) | skip)) | (refine Wl.geq rfl rfl (fun _ => ?_) (fun _ => ?_) <;> (first | (exfalso; omega) | (exfalso; contradiction) | skip)) | (refine Wl.eql rfl rfl (fun _ => ?_) (fun _ => ?_) <;> (first | (exfalso; omega) | (exfalso; contradiction) | skip)) | (refine Wl.neq rfl rfl (fun _ => ?_) (fun _ => ?_) <;> (first | (exfalso; omega) | (exfalso; contradiction) | skip)) | (refine Wl.seql rfl rfl (fun _ => ?_) (fun _ => ?_) <;> (first | (exfalso; omega) | (exfalso; contradiction) | skip)) | (refine Wl.sneq rfl rfl (fun _ => ?_) (fun _ => ?_) <;> (first | (exfalso; omega) | (exfalso; contradiction) | skip))))
    refine Wl.load1 rfl (b3.cell (o := 0) rfl) ?_
    (repeat' (first | refine Wl.moveE (by conv => { lhs; whnf }) ?_ | refine Wl.assignE (by conv => { lhs; whnf }) ?_ | refine Wl.nil ?_ | refine Wl.extract rfl rfl ?_ | refine Wl.guardY rfl rfl ?_ | refine Wl.guardN rfl rfl ?_ | refine Wl.guardU rfl ?_ | refine Wl.pickTE rfl (by conv => { lhs; whnf }) ?_ | refine Wl.pickFE rfl (by conv => { lhs; whnf }) ?_ | refine Wl.notB rfl ?_ | refine Wl.lenS rfl ?_ | refine Wl.lenStr rfl ?_ | refine Qseq.normal ?_ | refine Wc.seq ?_ | refine Wc.region ?_ | refine Wc.block ?_ | refine Wc.skip ?_ | refine Wc.exit ?_ | refine Wc.ret ?_ | refine Qseq.exit ?_ | refine Qseq.ret ?_ | refine Wc.scope ?_ | refine Wc.label ?_ | refine Qsc.normal ?_ | refine Qsc.exit ?_ | refine Qsc.ret ?_ | refine Qblk.normal ?_ | refine Qblk.ret ?_ | refine Qblk.hit ?_ | refine Qblk.miss rfl ?_ | refine Qloop.exit ?_ | refine Qloop.ret ?_ | refine Wc.condT rfl ?_ | refine Wc.condF rfl ?_ | refine Wl.nilP rfl ?_ | refine Wl.fieldAddr rfl rfl ?_ | refine Wl.nilF rfl ?_ | refine Wl.add rfl rfl (by omega) (by omega) ?_ | refine Wl.sub rfl rfl (by omega) (by omega) ?_ | refine Wl.mul rfl rfl (by omega) (by omega) ?_ | refine Wl.convI rfl ?_ | (refine Wl.lss rfl rfl (fun _ => ?_) (fun _ => ?_) <;> (first | (exfalso; omega) | (exfalso; contradiction) | skip)) | (refine Wl.leq rfl rfl (fun _ => ?_) (fun _ => ?_) <;> (first | (exfalso; omega) | (exfalso; contradiction) | skip)) | (refine Wl.gtr rfl rfl (fun _ => ?_) (fun _ => ?_) <;> (first | (exfalso; omega) | (exfalso; contradiction) | skip)) | (refine Wl.geq rfl rfl (fun _ => ?_) (fun _ => ?_) <;> (first | (exfalso; omega) | (exfalso; contradiction) | skip)) | (refine Wl.eql rfl rfl (fun _ => ?_) (fun _ => ?_) <;> (first | (exfalso; omega) | (exfalso; contradiction) | skip)) | (refine Wl.neq rfl rfl (fun _ => ?_) (fun _ => ?_) <;> (first | (exfalso; omega) | (exfalso; contradiction) | skip)) | (refine Wl.seql rfl rfl (fun _ => ?_) (fun _ => ?_) <;> (first | (exfalso; omega) | (exfalso; contradiction) | skip)) | (refine Wl.sneq rfl rfl (fun _ => ?_) (fun _ => ?_) <;> (first | (exfalso; omega) | (exfalso; contradiction) | skip))))
    refine Wl.load1 rfl (b3.cell (o := 1) rfl) ?_
    (repeat' (first | refine Wl.moveE (by conv => { lhs; whnf }) ?_ | refine Wl.assignE (by conv => { lhs; whnf }) ?_ | refine Wl.nil ?_ | refine Wl.extract rfl rfl ?_ | refine Wl.guardY rfl rfl ?_ | refine Wl.guardN rfl rfl ?_ | refine Wl.guardU rfl ?_ | refine Wl.pickTE rfl (by conv => { lhs; whnf }) ?_ | refine Wl.pickFE rfl (by conv => { lhs; whnf }) ?_ | refine Wl.notB rfl ?_ | refine Wl.lenS rfl ?_ | refine Wl.lenStr rfl ?_ | refine Qseq.normal ?_ | refine Wc.seq ?_ | refine Wc.region ?_ | refine Wc.block ?_ | refine Wc.skip ?_ | refine Wc.exit ?_ | refine Wc.ret ?_ | refine Qseq.exit ?_ | refine Qseq.ret ?_ | refine Wc.scope ?_ | refine Wc.label ?_ | refine Qsc.normal ?_ | refine Qsc.exit ?_ | refine Qsc.ret ?_ | refine Qblk.normal ?_ | refine Qblk.ret ?_ | refine Qblk.hit ?_ | refine Qblk.miss rfl ?_ | refine Qloop.exit ?_ | refine Qloop.ret ?_ | refine Wc.condT rfl ?_ | refine Wc.condF rfl ?_ | refine Wl.nilP rfl ?_ | refine Wl.fieldAddr rfl rfl ?_ | refine Wl.nilF rfl ?_ | refine Wl.add rfl rfl (by omega) (by omega) ?_ | refine Wl.sub rfl rfl (by omega) (by omega) ?_ | refine Wl.mul rfl rfl (by omega) (by omega) ?_ | refine Wl.convI rfl ?_ | (refine Wl.lss rfl rfl (fun _ => ?_) (fun _ => ?_) <;> (first | (exfalso; omega) | (exfalso; contradiction) | skip)) | (refine Wl.leq rfl rfl (fun _ => ?_) (fun _ => ?_) <;> (first | (exfalso; omega) | (exfalso; contradiction) | skip)) | (refine Wl.gtr rfl rfl (fun _ => ?_) (fun _ => ?_) <;> (first | (exfalso; omega) | (exfalso; contradiction) | skip)) | (refine Wl.geq rfl rfl (fun _ => ?_) (fun _ => ?_) <;> (first | (exfalso; omega) | (exfalso; contradiction) | skip)) | (refine Wl.eql rfl rfl (fun _ => ?_) (fun _ => ?_) <;> (first | (exfalso; omega) | (exfalso; contradiction) | skip)) | (refine Wl.neq rfl rfl (fun _ => ?_) (fun _ => ?_) <;> (first | (exfalso; omega) | (exfalso; contradiction) | skip)) | (refine Wl.seql rfl rfl (fun _ => ?_) (fun _ => ?_) <;> (first | (exfalso; omega) | (exfalso; contradiction) | skip)) | (refine Wl.sneq rfl rfl (fun _ => ?_) (fun _ => ?_) <;> (first | (exfalso; omega) | (exfalso; contradiction) | skip))))
    refine Wl.load1 rfl (b3.cell (o := 2) rfl) ?_
    (repeat' (first | refine Wl.moveE (by conv => { lhs; whnf }) ?_ | refine Wl.assignE (by conv => { lhs; whnf }) ?_ | refine Wl.nil ?_ | refine Wl.extract rfl rfl ?_ | refine Wl.guardY rfl rfl ?_ | refine Wl.guardN rfl rfl ?_ | refine Wl.guardU rfl ?_ | refine Wl.pickTE rfl (by conv => { lhs; whnf }) ?_ | refine Wl.pickFE rfl (by conv => { lhs; whnf }) ?_ | refine Wl.notB rfl ?_ | refine Wl.lenS rfl ?_ | refine Wl.lenStr rfl ?_ | refine Qseq.normal ?_ | refine Wc.seq ?_ | refine Wc.region ?_ | refine Wc.block ?_ | refine Wc.skip ?_ | refine Wc.exit ?_ | refine Wc.ret ?_ | refine Qseq.exit ?_ | refine Qseq.ret ?_ | refine Wc.scope ?_ | refine Wc.label ?_ | refine Qsc.normal ?_ | refine Qsc.exit ?_ | refine Qsc.ret ?_ | refine Qblk.normal ?_ | refine Qblk.ret ?_ | refine Qblk.hit ?_ | refine Qblk.miss rfl ?_ | refine Qloop.exit ?_ | refine Qloop.ret ?_ | refine Wc.condT rfl ?_ | refine Wc.condF rfl ?_ | refine Wl.nilP rfl ?_ | refine Wl.fieldAddr rfl rfl ?_ | refine Wl.nilF rfl ?_ | refine Wl.add rfl rfl (by omega) (by omega) ?_ | refine Wl.sub rfl rfl (by omega) (by omega) ?_ | refine Wl.mul rfl rfl (by omega) (by omega) ?_ | refine Wl.convI rfl ?_ | (refine Wl.lss rfl rfl (fun _ => ?_) (fun _ => ?_) <;> (first | (exfalso; omega) | (exfalso; contradiction) | skip)) | (refine Wl.leq rfl rfl (fun _ => ?_) (fun _ => ?_) <;> (first | (exfalso; omega) | (exfalso; contradiction) | skip)) | (refine Wl.gtr rfl rfl (fun _ => ?_) (fun _ => ?_) <;> (first | (exfalso; omega) | (exfalso; contradiction) | skip)) | (refine Wl.geq rfl rfl (fun _ => ?_) (fun _ => ?_) <;> (first | (exfalso; omega) | (exfalso; contradiction) | skip)) | (refine Wl.eql rfl rfl (fun _ => ?_) (fun _ => ?_) <;> (first | (exfalso; omega) | (exfalso; contradiction) | skip)) | (refine Wl.neq rfl rfl (fun _ => ?_) (fun _ => ?_) <;> (first | (exfalso; omega) | (exfalso; contradiction) | skip)) | (refine Wl.seql rfl rfl (fun _ => ?_) (fun _ => ?_) <;> (first | (exfalso; omega) | (exfalso; contradiction) | skip)) | (refine Wl.sneq rfl rfl (fun _ => ?_) (fun _ => ?_) <;> (first | (exfalso; omega) | (exfalso; contradiction) | skip))))
    refine Wl.load1 rfl (b3.cell (o := 3) rfl) ?_
    (repeat' (first | refine Wl.moveE (by conv => { lhs; whnf }) ?_ | refine Wl.assignE (by conv => { lhs; whnf }) ?_ | refine Wl.nil ?_ | refine Wl.extract rfl rfl ?_ | refine Wl.guardY rfl rfl ?_ | refine Wl.guardN rfl rfl ?_ | refine Wl.guardU rfl ?_ | refine Wl.pickTE rfl (by conv => { lhs; whnf }) ?_ | refine Wl.pickFE rfl (by conv => { lhs; whnf }) ?_ | refine Wl.notB rfl ?_ | refine Wl.lenS rfl ?_ | refine Wl.lenStr rfl ?_ | refine Qseq.normal ?_ | refine Wc.seq ?_ | refine Wc.region ?_ | refine Wc.block ?_ | refine Wc.skip ?_ | refine Wc.exit ?_ | refine Wc.ret ?_ | refine Qseq.exit ?_ | refine Qseq.ret ?_ | refine Wc.scope ?_ | refine Wc.label ?_ | refine Qsc.normal ?_ | refine Qsc.exit ?_ | refine Qsc.ret ?_ | refine Qblk.normal ?_ | refine Qblk.ret ?_ | refine Qblk.hit ?_ | refine Qblk.miss rfl ?_ | refine Qloop.exit ?_ | refine Qloop.ret ?_ | refine Wc.condT rfl ?_ | refine Wc.condF rfl ?_ | refine Wl.nilP rfl ?_ | refine Wl.fieldAddr rfl rfl ?_ | refine Wl.nilF rfl ?_ | refine Wl.add rfl rfl (by omega) (by omega) ?_ | refine Wl.sub rfl rfl (by omega) (by omega) ?_ | refine Wl.mul rfl rfl (by omega) (by omega) ?_ | refine Wl.convI rfl ?_ | (refine Wl.lss rfl rfl (fun _ => ?_) (fun _ => ?_) <;> (first | (exfalso; omega) | (exfalso; contradiction) | skip)) | (refine Wl.leq rfl rfl (fun _ => ?_) (fun _ => ?_) <;> (first | (exfalso; omega) | (exfalso; contradiction) | skip)) | (refine Wl.gtr rfl rfl (fun _ => ?_) (fun _ => ?_) <;> (first | (exfalso; omega) | (exfalso; contradiction) | skip)) | (refine Wl.geq rfl rfl (fun _ => ?_) (fun _ => ?_) <;> (first | (exfalso; omega) | (exfalso; contradiction) | skip)) | (refine Wl.eql rfl rfl (fun _ => ?_) (fun _ => ?_) <;> (first | (exfalso; omega) | (exfalso; contradiction) | skip)) | (refine Wl.neq rfl rfl (fun _ => ?_) (fun _ => ?_) <;> (first | (exfalso; omega) | (exfalso; contradiction) | skip)) | (refine Wl.seql rfl rfl (fun _ => ?_) (fun _ => ?_) <;> (first | (exfalso; omega) | (exfalso; contradiction) | skip)) | (refine Wl.sneq rfl rfl (fun _ => ?_) (fun _ => ?_) <;> (first | (exfalso; omega) | (exfalso; contradiction) | skip))))
    refine Wl.load1 rfl (b3.cell (o := 4) rfl) ?_
    (repeat' (first | refine Wl.moveE (by conv => { lhs; whnf }) ?_ | refine Wl.assignE (by conv => { lhs; whnf }) ?_ | refine Wl.nil ?_ | refine Wl.extract rfl rfl ?_ | refine Wl.guardY rfl rfl ?_ | refine Wl.guardN rfl rfl ?_ | refine Wl.guardU rfl ?_ | refine Wl.pickTE rfl (by conv => { lhs; whnf }) ?_ | refine Wl.pickFE rfl (by conv => { lhs; whnf }) ?_ | refine Wl.notB rfl ?_ | refine Wl.lenS rfl ?_ | refine Wl.lenStr rfl ?_ | refine Qseq.normal ?_ | refine Wc.seq ?_ | refine Wc.region ?_ | refine Wc.block ?_ | refine Wc.skip ?_ | refine Wc.exit ?_ | refine Wc.ret ?_ | refine Qseq.exit ?_ | refine Qseq.ret ?_ | refine Wc.scope ?_ | refine Wc.label ?_ | refine Qsc.normal ?_ | refine Qsc.exit ?_ | refine Qsc.ret ?_ | refine Qblk.normal ?_ | refine Qblk.ret ?_ | refine Qblk.hit ?_ | refine Qblk.miss rfl ?_ | refine Qloop.exit ?_ | refine Qloop.ret ?_ | refine Wc.condT rfl ?_ | refine Wc.condF rfl ?_ | refine Wl.nilP rfl ?_ | refine Wl.fieldAddr rfl rfl ?_ | refine Wl.nilF rfl ?_ | refine Wl.add rfl rfl (by omega) (by omega) ?_ | refine Wl.sub rfl rfl (by omega) (by omega) ?_ | refine Wl.mul rfl rfl (by omega) (by omega) ?_ | refine Wl.convI rfl ?_ | (refine Wl.lss rfl rfl (fun _ => ?_) (fun _ => ?_) <;> (first | (exfalso; omega) | (exfalso; contradiction) | skip)) | (refine Wl.leq rfl rfl (fun _ => ?_) (fun _ => ?_) <;> (first | (exfalso; omega) | (exfalso; contradiction) | skip)) | (refine Wl.gtr rfl rfl (fun _ => ?_) (fun _ => ?_) <;> (first | (exfalso; omega) | (exfalso; contradiction) | skip)) | (refine Wl.geq rfl rfl (fun _ => ?_) (fun _ => ?_) <;> (first | (exfalso; omega) | (exfalso; contradiction) | skip)) | (refine Wl.eql rfl rfl (fun _ => ?_) (fun _ => ?_) <;> (first | (exfalso; omega) | (exfalso; contradiction) | skip)) | (refine Wl.neq rfl rfl (fun _ => ?_) (fun _ => ?_) <;> (first | (exfalso; omega) | (exfalso; contradiction) | skip)) | (refine Wl.seql rfl rfl (fun _ => ?_) (fun _ => ?_) <;> (first | (exfalso; omega) | (exfalso; contradiction) | skip)) | (refine Wl.sneq rfl rfl (fun _ => ?_) (fun _ => ?_) <;> (first | (exfalso; omega) | (exfalso; contradiction) | skip))))
    refine Wl.load1 rfl (b3.cell (o := 5) rfl) ?_
    refine Wl.buildG (u := evV y) rfl (by kernel_rfl) ?_
    refine Wl.append1 (y := y) goodEv og3 rfl rfl rfl rfl rfl (by omega) (by omega) (by simp only [maxLen, List.length_take]; omega) (by simp only [List.length_take]; omega) rfl rfl fun g' w4 p og4 c4 _ => ?_
    rw [← take_snoc' hy] at og4
    (repeat' (first | refine Wl.moveE (by conv => { lhs; whnf }) ?_ | refine Wl.assignE (by conv => { lhs; whnf }) ?_ | refine Wl.nil ?_ | refine Wl.extract rfl rfl ?_ | refine Wl.guardY rfl rfl ?_ | refine Wl.guardN rfl rfl ?_ | refine Wl.guardU rfl ?_ | refine Wl.pickTE rfl (by conv => { lhs; whnf }) ?_ | refine Wl.pickFE rfl (by conv => { lhs; whnf }) ?_ | refine Wl.notB rfl ?_ | refine Wl.lenS rfl ?_ | refine Wl.lenStr rfl ?_ | refine Qseq.normal ?_ | refine Wc.seq ?_ | refine Wc.region ?_ | refine Wc.block ?_ | refine Wc.skip ?_ | refine Wc.exit ?_ | refine Wc.ret ?_ | refine Qseq.exit ?_ | refine Qseq.ret ?_ | refine Wc.scope ?_ | refine Wc.label ?_ | refine Qsc.normal ?_ | refine Qsc.exit ?_ | refine Qsc.ret ?_ | refine Qblk.normal ?_ | refine Qblk.ret ?_ | refine Qblk.hit ?_ | refine Qblk.miss rfl ?_ | refine Qloop.exit ?_ | refine Qloop.ret ?_ | refine Wc.condT rfl ?_ | refine Wc.condF rfl ?_ | refine Wl.nilP rfl ?_ | refine Wl.fieldAddr rfl rfl ?_ | refine Wl.nilF rfl ?_ | refine Wl.add rfl rfl (by omega) (by omega) ?_ | refine Wl.sub rfl rfl (by omega) (by omega) ?_ | refine Wl.mul rfl rfl (by omega) (by omega) ?_ | refine Wl.convI rfl ?_ | (refine Wl.lss rfl rfl (fun _ => ?_) (fun _ => ?_) <;> (first | (exfalso; omega) | (exfalso; contradiction) | skip)) | (refine Wl.leq rfl rfl (fun _ => ?_) (fun _ => ?_) <;> (first | (exfalso; omega) | (exfalso; contradiction) | skip)) | (refine Wl.gtr rfl rfl (fun _ => ?_) (fun _ => ?_) <;> (first | (exfalso; omega) | (exfalso; contradiction) | skip)) | (refine Wl.geq rfl rfl (fun _ => ?_) (fun _ => ?_) <;> (first | (exfalso; omega) | (exfalso; contradiction) | skip)) | (refine Wl.eql rfl rfl (fun _ => ?_) (fun _ => ?_) <;> (first | (exfalso; omega) | (exfalso; contradiction) | skip)) | (refine Wl.neq rfl rfl (fun _ => ?_) (fun _ => ?_) <;> (first | (exfalso; omega) | (exfalso; contradiction) | skip)) | (refine Wl.seql rfl rfl (fun _ => ?_) (fun _ => ?_) <;> (first | (exfalso; omega) | (exfalso; contradiction) | skip)) | (refine Wl.sneq rfl rfl (fun _ => ?_) (fun _ => ?_) <;> (first | (exfalso; omega) | (exfalso; contradiction) | skip))))
    exact Qloop.normal (i + 1, g') ⟨rfl, rfl, rfl, trivial⟩ ⟨by dsimp only; omega, og4.mono goodEv.mo (fun k _ hk => by rcases hk with hk | hk <;> omega) (fun _ _ e => e), Chg.trans (n1.trans n13) c4 fun k hk e => by have := (og.lt e).1; omega⟩ (by dsimp only; omega)
  · have e : i = l.length := by omega
    subst e
    rw [List.take_length] at og
    exact Qfn.ret1 rfl rfl ⟨_, rfl, og, n1⟩
theorem SqR.new {Pb : Nat → Prop} {bs : Nat} {v : Value} {l : List Ev} {W W' : World} (h : SqR Pb bs v l W) (n : New W W') : SqR Pb bs v l W' := ⟨h.1.chg n (fun e => e), h.2.keep (stable_flat _) n.keep⟩
theorem SqR.put {Pb : Nat → Prop} {bs L : Nat} {v : Value} {l : List Ev} {W : World} (o : Obj) (h : SqR Pb bs v l W) (hL : NoC W L) (hP : ¬ Pb L) : SqR Pb bs v l (W.putObj L o) := ⟨h.1.put o hL, h.2.keep (stable_flat _) (Keep.put o hP)⟩
theorem SqR.chg {Pb M : Nat → Prop} {bs : Nat} {v : Value} {l : List Ev} {W W' : World} (h : SqR Pb bs v l W) (c : Chg M W W') (hb : ¬ M bs) (hP : ∀ k, Pb k → ¬ M k) : SqR Pb bs v l W' := ⟨h.1.chg c hb, h.2.keep (stable_flat _) (c.keep fun k _ hk => hP k hk)⟩
theorem getD_of {l : List Ev} {k : Nat} {y : Ev} (h : l[k]? = some y) : l.getD k ev0 = y := by rw [List.getD_eq_getElem?_getD, h]; rfl
set_option maxHeartbeats 2000000 in
theorem each_spec' {w : World} {p : Value} {l : List Ev} (hl : l.length ≤ 1000000) (hE : Calls Tryz.prog 27 #[p] w (Ret fun r w' => SeqAt (fun k => w.heap.size ≤ k) w' r l ∧ New w w')) :
    Calls Tryz.prog 15 #[p] w (Ret fun r w' => OwnS rEv 26 6 (fun b => w.heap.size ≤ b) No w' r l ∧ New w w') := by
  refine calls_of_Wd Tryz.func15 rfl Tryz.ntmps15 rfl ?_
  (repeat' (first | refine Wl.moveE (by conv => { lhs; whnf }) ?_ | refine Wl.assignE (by conv => { lhs; whnf }) ?_ | refine Wl.nil ?_ | refine Wl.extract rfl rfl ?_ | refine Wl.guardY rfl rfl ?_ | refine Wl.guardN rfl rfl ?_ | refine Wl.guardU rfl ?_ | refine Wl.pickTE rfl (by conv => { lhs; whnf }) ?_ | refine Wl.pickFE rfl (by conv => { lhs; whnf }) ?_ | refine Wl.notB rfl ?_ | refine Wl.lenS rfl ?_ | refine Wl.lenStr rfl ?_ | refine Wd.seq ?_ | refine Wd.block ?_ | refine Wd.condT rfl ?_ | refine Wd.condF rfl ?_ | refine Qds.normal ?_ | refine Qds.exit ?_ | refine Qds.ret ?_ | refine Qdb.normal ?_ | refine Qdb.ret ?_ | refine Qdb.hit ?_ | refine Qdb.miss rfl ?_ | refine Qdn.e ?_ | refine Wd.region ?_ | refine Wd.skip ?_ | refine Wd.exit ?_ | refine Wd.ret ?_ | refine Wl.nilP rfl ?_ | refine Wl.fieldAddr rfl rfl ?_ | refine Wl.nilF rfl ?_ | refine Wl.add rfl rfl (by omega) (by omega) ?_ | refine Wl.sub rfl rfl (by omega) (by omega) ?_ | refine Wl.mul rfl rfl (by omega) (by omega) ?_ | refine Wl.convI rfl ?_ | (refine Wl.lss rfl rfl (fun _ => ?_) (fun _ => ?_) <;> (first | (exfalso; omega) | (exfalso; contradiction) | skip)) | (refine Wl.leq rfl rfl (fun _ => ?_) (fun _ => ?_) <;> (first | (exfalso; omega) | (exfalso; contradiction) | skip)) | (refine Wl.gtr rfl rfl (fun _ => ?_) (fun _ => ?_) <;> (first | (exfalso; omega) | (exfalso; contradiction) | skip)) | (refine Wl.geq rfl rfl (fun _ => ?_) (fun _ => ?_) <;> (first | (exfalso; omega) | (exfalso; contradiction) | skip)) | (refine Wl.eql rfl rfl (fun _ => ?_) (fun _ => ?_) <;> (first | (exfalso; omega) | (exfalso; contradiction) | skip)) | (refine Wl.neq rfl rfl (fun _ => ?_) (fun _ => ?_) <;> (first | (exfalso; omega) | (exfalso; contradiction) | skip)) | (refine Wl.seql rfl rfl (fun _ => ?_) (fun _ => ?_) <;> (first | (exfalso; omega) | (exfalso; contradiction) | skip)) | (refine Wl.sneq rfl rfl (fun _ => ?_) (fun _ => ?_) <;> (first | (exfalso; omega) | (exfalso; contradiction) | skip))))
  refine Wl.call hE rfl ?_
  intro f w1 hh
  obtain ⟨⟨bs, sv, rfl, _, hb1, hr1⟩, n1⟩ := hh
  (repeat' (first | refine Wl.moveE (by conv => { lhs; whnf }) ?_ | refine Wl.assignE (by conv => { lhs; whnf }) ?_ | refine Wl.nil ?_ | refine Wl.extract rfl rfl ?_ | refine Wl.guardY rfl rfl ?_ | refine Wl.guardN rfl rfl ?_ | refine Wl.guardU rfl ?_ | refine Wl.pickTE rfl (by conv => { lhs; whnf }) ?_ | refine Wl.pickFE rfl (by conv => { lhs; whnf }) ?_ | refine Wl.notB rfl ?_ | refine Wl.lenS rfl ?_ | refine Wl.lenStr rfl ?_ | refine Wd.seq ?_ | refine Wd.block ?_ | refine Wd.condT rfl ?_ | refine Wd.condF rfl ?_ | refine Qds.normal ?_ | refine Qds.exit ?_ | refine Qds.ret ?_ | refine Qdb.normal ?_ | refine Qdb.ret ?_ | refine Qdb.hit ?_ | refine Qdb.miss rfl ?_ | refine Qdn.e ?_ | refine Wd.region ?_ | refine Wd.skip ?_ | refine Wd.exit ?_ | refine Wd.ret ?_ | refine Wl.nilP rfl ?_ | refine Wl.fieldAddr rfl rfl ?_ | refine Wl.nilF rfl ?_ | refine Wl.add rfl rfl (by omega) (by omega) ?_ | refine Wl.sub rfl rfl (by omega) (by omega) ?_ | refine Wl.mul rfl rfl (by omega) (by omega) ?_ | refine Wl.convI rfl ?_ | (refine Wl.lss rfl rfl (fun _ => ?_) (fun _ => ?_) <;> (first | (exfalso; omega) | (exfalso; contradiction) | skip)) | (refine Wl.leq rfl rfl (fun _ => ?_) (fun _ => ?_) <;> (first | (exfalso; omega) | (exfalso; contradiction) | skip)) | (refine Wl.gtr rfl rfl (fun _ => ?_) (fun _ => ?_) <;> (first | (exfalso; omega) | (exfalso; contradiction) | skip)) | (refine Wl.geq rfl rfl (fun _ => ?_) (fun _ => ?_) <;> (first | (exfalso; omega) | (exfalso; contradiction) | skip)) | (refine Wl.eql rfl rfl (fun _ => ?_) (fun _ => ?_) <;> (first | (exfalso; omega) | (exfalso; contradiction) | skip)) | (refine Wl.neq rfl rfl (fun _ => ?_) (fun _ => ?_) <;> (first | (exfalso; omega) | (exfalso; contradiction) | skip)) | (refine Wl.seql rfl rfl (fun _ => ?_) (fun _ => ?_) <;> (first | (exfalso; omega) | (exfalso; contradiction) | skip)) | (refine Wl.sneq rfl rfl (fun _ => ?_) (fun _ => ?_) <;> (first | (exfalso; omega) | (exfalso; contradiction) | skip))))
  refine Wl.feqNil ⟨_, _, _, Tryz.underlying70⟩ rfl rfl ?_
  (repeat' (first | refine Wl.moveE (by conv => { lhs; whnf }) ?_ | refine Wl.assignE (by conv => { lhs; whnf }) ?_ | refine Wl.nil ?_ | refine Wl.extract rfl rfl ?_ | refine Wl.guardY rfl rfl ?_ | refine Wl.guardN rfl rfl ?_ | refine Wl.guardU rfl ?_ | refine Wl.pickTE rfl (by conv => { lhs; whnf }) ?_ | refine Wl.pickFE rfl (by conv => { lhs; whnf }) ?_ | refine Wl.notB rfl ?_ | refine Wl.lenS rfl ?_ | refine Wl.lenStr rfl ?_ | refine Wd.seq ?_ | refine Wd.block ?_ | refine Wd.condT rfl ?_ | refine Wd.condF rfl ?_ | refine Qds.normal ?_ | refine Qds.exit ?_ | refine Qds.ret ?_ | refine Qdb.normal ?_ | refine Qdb.ret ?_ | refine Qdb.hit ?_ | refine Qdb.miss rfl ?_ | refine Qdn.e ?_ | refine Wd.region ?_ | refine Wd.skip ?_ | refine Wd.exit ?_ | refine Wd.ret ?_ | refine Wl.nilP rfl ?_ | refine Wl.fieldAddr rfl rfl ?_ | refine Wl.nilF rfl ?_ | refine Wl.add rfl rfl (by omega) (by omega) ?_ | refine Wl.sub rfl rfl (by omega) (by omega) ?_ | refine Wl.mul rfl rfl (by omega) (by omega) ?_ | refine Wl.convI rfl ?_ | (refine Wl.lss rfl rfl (fun _ => ?_) (fun _ => ?_) <;> (first | (exfalso; omega) | (exfalso; contradiction) | skip)) | (refine Wl.leq rfl rfl (fun _ => ?_) (fun _ => ?_) <;> (first | (exfalso; omega) | (exfalso; contradiction) | skip)) | (refine Wl.gtr rfl rfl (fun _ => ?_) (fun _ => ?_) <;> (first | (exfalso; omega) | (exfalso; contradiction) | skip)) | (refine Wl.geq rfl rfl (fun _ => ?_) (fun _ => ?_) <;> (first | (exfalso; omega) | (exfalso; contradiction) | skip)) | (refine Wl.eql rfl rfl (fun _ => ?_) (fun _ => ?_) <;> (first | (exfalso; omega) | (exfalso; contradiction) | skip)) | (refine Wl.neq rfl rfl (fun _ => ?_) (fun _ => ?_) <;> (first | (exfalso; omega) | (exfalso; contradiction) | skip)) | (refine Wl.seql rfl rfl (fun _ => ?_) (fun _ => ?_) <;> (first | (exfalso; omega) | (exfalso; contradiction) | skip)) | (refine Wl.sneq rfl rfl (fun _ => ?_) (fun _ => ?_) <;> (first | (exfalso; omega) | (exfalso; contradiction) | skip))))
  refine Wl.alloc fun w2 b2 n2 s2 => ?_
  replace b2 : Bk w2 w1.heap.size 23 [.slice none 0 0] := b2
  have hq2 : SqR (fun k => k < w1.heap.size) bs sv l w2 := ⟨hb1.chg n2 (fun e => e), (hr1.mono (mono_flat _) fun k hk _ => hk).keep (stable_flat _) n2.keep⟩
  have hbl := hb1.lt
  have n02 := n1.trans n2
  have s1 := n1.size
  clear hb1 hr1
  let I : Nat → World → Prop := fun k W => New w W ∧ w2.heap.size ≤ W.heap.size ∧ SqR (fun k => k < w1.heap.size) bs sv l W ∧ ∃ u, Bk W w1.heap.size 23 [u] ∧ OwnS rEv 27 6 (fun j => w2.heap.size ≤ j) No W u (l.take k)
  (repeat' (first | refine Wl.moveE (by conv => { lhs; whnf }) ?_ | refine Wl.assignE (by conv => { lhs; whnf }) ?_ | refine Wl.nil ?_ | refine Wl.extract rfl rfl ?_ | refine Wl.guardY rfl rfl ?_ | refine Wl.guardN rfl rfl ?_ | refine Wl.guardU rfl ?_ | refine Wl.pickTE rfl (by conv => { lhs; whnf }) ?_ | refine Wl.pickFE rfl (by conv => { lhs; whnf }) ?_ | refine Wl.notB rfl ?_ | refine Wl.lenS rfl ?_ | refine Wl.lenStr rfl ?_ | refine Wd.seq ?_ | refine Wd.block ?_ | refine Wd.condT rfl ?_ | refine Wd.condF rfl ?_ | refine Qds.normal ?_ | refine Qds.exit ?_ | refine Qds.ret ?_ | refine Qdb.normal ?_ | refine Qdb.ret ?_ | refine Qdb.hit ?_ | refine Qdb.miss rfl ?_ | refine Qdn.e ?_ | refine Wd.region ?_ | refine Wd.skip ?_ | refine Wd.exit ?_ | refine Wd.ret ?_ | refine Wl.nilP rfl ?_ | refine Wl.fieldAddr rfl rfl ?_ | refine Wl.nilF rfl ?_ | refine Wl.add rfl rfl (by omega) (by omega) ?_ | refine Wl.sub rfl rfl (by omega) (by omega) ?_ | refine Wl.mul rfl rfl (by omega) (by omega) ?_ | refine Wl.convI rfl ?_ | (refine Wl.lss rfl rfl (fun _ => ?_) (fun _ => ?_) <;> (first | (exfalso; omega) | (exfalso; contradiction) | skip)) | (refine Wl.leq rfl rfl (fun _ => ?_) (fun _ => ?_) <;> (first | (exfalso; omega) | (exfalso; contradiction) | skip)) | (refine Wl.gtr rfl rfl (fun _ => ?_) (fun _ => ?_) <;> (first | (exfalso; omega) | (exfalso; contradiction) | skip)) | (refine Wl.geq rfl rfl (fun _ => ?_) (fun _ => ?_) <;> (first | (exfalso; omega) | (exfalso; contradiction) | skip)) | (refine Wl.eql rfl rfl (fun _ => ?_) (fun _ => ?_) <;> (first | (exfalso; omega) | (exfalso; contradiction) | skip)) | (refine Wl.neq rfl rfl (fun _ => ?_) (fun _ => ?_) <;> (first | (exfalso; omega) | (exfalso; contradiction) | skip)) | (refine Wl.seql rfl rfl (fun _ => ?_) (fun _ => ?_) <;> (first | (exfalso; omega) | (exfalso; contradiction) | skip)) | (refine Wl.sneq rfl rfl (fun _ => ?_) (fun _ => ?_) <;> (first | (exfalso; omega) | (exfalso; contradiction) | skip))))
  refine Wd.range (gf := 71) (lb := #[pT bs]) rfl (fun args _ => run_callFunc inferInstance args) (iter_values (Pb := fun k => k < w1.heap.size) (bs := bs) (v := sv) (l := l)) I (fun _ _ => False) ?_ ?_ ?_ ?_ ?_ ?_ ?_ ?_ ?_
  · exact fun k W h => h.2.2.1
  · rintro k W W' ⟨h1, h2, h3, u, h4, h5⟩ n
    exact ⟨h1.trans n, Nat.le_trans h2 n.size, h3.new n, u, h4.chg n (fun e => e), h5.new (plain_flat _) n⟩
  · rintro k W r r' ⟨h1, h2, h3, u, h4, h5⟩ hL
    have z := n02.size
    exact ⟨h1.put _ (by omega), by simpa using h2, h3.put _ (.loop hL) (by omega), u, h4.put _ (.loop hL), h5.put _ (plain_flat _) (.loop hL)⟩
  · exact fun _ _ _ _ h => h.elim
  · intro r
    have n := Chg.loop (w := w2) (.deferred (some [])) (.loop r)
    exact ⟨n02.trans n, n.size, hq2.new n, _, b2.chg n (fun e => e), OwnS.nil⟩
  · rintro k W r hk ⟨h1, h2, h3, u, h4, h5⟩ hL hD
    obtain ⟨y, hy⟩ := get_lt l hk
    show Wr _ _ _ _ _ (upd _ 13 (evV (l.getD k ev0))) W
    rw [getD_of hy]
    (repeat' (first | refine Wl.moveE (by conv => { lhs; whnf }) ?_ | refine Wl.assignE (by conv => { lhs; whnf }) ?_ | refine Wl.nil ?_ | refine Wl.extract rfl rfl ?_ | refine Wl.guardY rfl rfl ?_ | refine Wl.guardN rfl rfl ?_ | refine Wl.guardU rfl ?_ | refine Wl.pickTE rfl (by conv => { lhs; whnf }) ?_ | refine Wl.pickFE rfl (by conv => { lhs; whnf }) ?_ | refine Wl.notB rfl ?_ | refine Wl.lenS rfl ?_ | refine Wl.lenStr rfl ?_ | refine Qsr.normal ?_ | refine Wr.seq ?_ | refine Wr.region rfl (by repeat' (first | exact Qfn.out (by rintro _ ⟨⟨_, e⟩, _⟩; cases e) | exact Qrd.out | exact Qas.out | refine Qsr.out ?_ | refine Qloop.out ?_ | refine Qsc.out ?_ | refine Qblk.out ?_)) ?_ | refine Wr.block ?_ | refine Wr.skip ?_ | refine Wr.exit ?_ | refine Wr.ret ?_ | refine Qsr.exit ?_ | refine Qsr.ret ?_ | refine Qblk.normal ?_ | refine Qblk.ret ?_ | refine Qblk.hit ?_ | refine Qblk.miss rfl ?_ | refine Wr.scope ?_ | refine Wr.label ?_ | refine Qsc.normal ?_ | refine Qsc.exit ?_ | refine Qsc.ret ?_ | refine Qloop.exit ?_ | refine Qloop.ret ?_ | refine Wr.condT rfl ?_ | refine Wr.condF rfl ?_ | refine Wl.nilP rfl ?_ | refine Wl.fieldAddr rfl rfl ?_ | refine Wl.nilF rfl ?_ | refine Wl.add rfl rfl (by omega) (by omega) ?_ | refine Wl.sub rfl rfl (by omega) (by omega) ?_ | refine Wl.mul rfl rfl (by omega) (by omega) ?_ | refine Wl.convI rfl ?_ | (refine Wl.lss rfl rfl (fun _ => ?_) (fun _ => ?_) <;> (first | (exfalso; omega) | (exfalso; contradiction) | skip)) | (refine Wl.leq rfl rfl (fun _ => ?_) (fun _ => ?_) <;> (first | (exfalso; omega) | (exfalso; contradiction) | skip)) | (refine Wl.gtr rfl rfl (fun _ => ?_) (fun _ => ?_) <;> (first | (exfalso; omega) | (exfalso; contradiction) | skip)) | (refine Wl.geq rfl rfl (fun _ => ?_) (fun _ => ?_) <;> (first | (exfalso; omega) | (exfalso; contradiction) | skip)) | (refine Wl.eql rfl rfl (fun _ => ?_) (fun _ => ?_) <;> (first | (exfalso; omega) | (exfalso; contradiction) | skip)) | (refine Wl.neq rfl rfl (fun _ => ?_) (fun _ => ?_) <;> (first | (exfalso; omega) | (exfalso; contradiction) | skip)) | (refine Wl.seql rfl rfl (fun _ => ?_) (fun _ => ?_) <;> (first | (exfalso; omega) | (exfalso; contradiction) | skip)) | (refine Wl.sneq rfl rfl (fun _ => ?_) (fun _ => ?_) <;> (first | (exfalso; omega) | (exfalso; contradiction) | skip))))
    refine Wl.alloc fun W1 c1 m1 t1 => ?_
    refine Wl.storeB (o := 0) (new := evC y) c1 rfl rfl rfl rfl (Nat.le_refl 6) (evC_one _) fun W2 c2 m2 t2 => ?_
    replace c2 : Bk W2 W.heap.size 27 (evC y) := c2
    have m02 : New W W2 := Chg.trans m1 m2 fun _ _ e => by omega
    (repeat' (first | refine Wl.moveE (by conv => { lhs; whnf }) ?_ | refine Wl.assignE (by conv => { lhs; whnf }) ?_ | refine Wl.nil ?_ | refine Wl.extract rfl rfl ?_ | refine Wl.guardY rfl rfl ?_ | refine Wl.guardN rfl rfl ?_ | refine Wl.guardU rfl ?_ | refine Wl.pickTE rfl (by conv => { lhs; whnf }) ?_ | refine Wl.pickFE rfl (by conv => { lhs; whnf }) ?_ | refine Wl.notB rfl ?_ | refine Wl.lenS rfl ?_ | refine Wl.lenStr rfl ?_ | refine Qsr.normal ?_ | refine Wr.seq ?_ | refine Wr.region rfl (by repeat' (first | exact Qfn.out (by rintro _ ⟨⟨_, e⟩, _⟩; cases e) | exact Qrd.out | exact Qas.out | refine Qsr.out ?_ | refine Qloop.out ?_ | refine Qsc.out ?_ | refine Qblk.out ?_)) ?_ | refine Wr.block ?_ | refine Wr.skip ?_ | refine Wr.exit ?_ | refine Wr.ret ?_ | refine Qsr.exit ?_ | refine Qsr.ret ?_ | refine Qblk.normal ?_ | refine Qblk.ret ?_ | refine Qblk.hit ?_ | refine Qblk.miss rfl ?_ | refine Wr.scope ?_ | refine Wr.label ?_ | refine Qsc.normal ?_ | refine Qsc.exit ?_ | refine Qsc.ret ?_ | refine Qloop.exit ?_ | refine Qloop.ret ?_ | refine Wr.condT rfl ?_ | refine Wr.condF rfl ?_ | refine Wl.nilP rfl ?_ | refine Wl.fieldAddr rfl rfl ?_ | refine Wl.nilF rfl ?_ | refine Wl.add rfl rfl (by omega) (by omega) ?_ | refine Wl.sub rfl rfl (by omega) (by omega) ?_ | refine Wl.mul rfl rfl (by omega) (by omega) ?_ | refine Wl.convI rfl ?_ | (refine Wl.lss rfl rfl (fun _ => ?_) (fun _ => ?_) <;> (first | (exfalso; omega) | (exfalso; contradiction) | skip)) | (refine Wl.leq rfl rfl (fun _ => ?_) (fun _ => ?_) <;> (first | (exfalso; omega) | (exfalso; contradiction) | skip)) | (refine Wl.gtr rfl rfl (fun _ => ?_) (fun _ => ?_) <;> (first | (exfalso; omega) | (exfalso; contradiction) | skip)) | (refine Wl.geq rfl rfl (fun _ => ?_) (fun _ => ?_) <;> (first | (exfalso; omega) | (exfalso; contradiction) | skip)) | (refine Wl.eql rfl rfl (fun _ => ?_) (fun _ => ?_) <;> (first | (exfalso; omega) | (exfalso; contradiction) | skip)) | (refine Wl.neq rfl rfl (fun _ => ?_) (fun _ => ?_) <;> (first | (exfalso; omega) | (exfalso; contradiction) | skip)) | (refine Wl.seql rfl rfl (fun _ => ?_) (fun _ => ?_) <;> (first | (exfalso; omega) | (exfalso; contradiction) | skip)) | (refine Wl.sneq rfl rfl (fun _ => ?_) (fun _ => ?_) <;> (first | (exfalso; omega) | (exfalso; contradiction) | skip))))
    refine ⟨m02, fun r' => ?_⟩
    have nL : NoC W2 (w2.heap.size + 1) := .loop ((m02.block _ (Array.getElem?_eq_some_iff.1 hL).1 id).trans hL)
    have hLt := nL.lt
    have z := n02.size
    have q1 : New w (W2.putObj (w2.heap.size + 1) (.loop r')) := (h1.trans m02).put _ (by omega)
    have q3 := (h3.new m02).put (.loop r') nL (by omega)
    have q4 := (h4.chg m02 (fun e => e)).put (.loop r') nL
    have q5 := (h5.new (plain_flat _) m02).put (.loop r') (plain_flat _) nL
    have q6 := c2.put (.loop r') nL
    have qL : NoC (W2.putObj (w2.heap.size + 1) (.loop r')) (w2.heap.size + 1) := .loop (World.putObj_heap_same hLt)
    have qD : NoC (W2.putObj (w2.heap.size + 1) (.loop r')) w2.heap.size := .mark ((World.putObj_heap_other (by omega)).trans ((m02.block _ (Array.getElem?_eq_some_iff.1 hD).1 id).trans hD))
    generalize W2.putObj (w2.heap.size + 1) (.loop r') = W3 at *
    clear m1 m2 c1 c2 h1 h3 h4 h5
    (repeat' (first | refine Wl.moveE (by conv => { lhs; whnf }) ?_ | refine Wl.assignE (by conv => { lhs; whnf }) ?_ | refine Wl.nil ?_ | refine Wl.extract rfl rfl ?_ | refine Wl.guardY rfl rfl ?_ | refine Wl.guardN rfl rfl ?_ | refine Wl.guardU rfl ?_ | refine Wl.pickTE rfl (by conv => { lhs; whnf }) ?_ | refine Wl.pickFE rfl (by conv => { lhs; whnf }) ?_ | refine Wl.notB rfl ?_ | refine Wl.lenS rfl ?_ | refine Wl.lenStr rfl ?_ | refine Qsr.normal ?_ | refine Wr.seq ?_ | refine Wr.region rfl (by repeat' (first | exact Qfn.out (by rintro _ ⟨⟨_, e⟩, _⟩; cases e) | exact Qrd.out | exact Qas.out | refine Qsr.out ?_ | refine Qloop.out ?_ | refine Qsc.out ?_ | refine Qblk.out ?_)) ?_ | refine Wr.block ?_ | refine Wr.skip ?_ | refine Wr.exit ?_ | refine Wr.ret ?_ | refine Qsr.exit ?_ | refine Qsr.ret ?_ | refine Qblk.normal ?_ | refine Qblk.ret ?_ | refine Qblk.hit ?_ | refine Qblk.miss rfl ?_ | refine Wr.scope ?_ | refine Wr.label ?_ | refine Qsc.normal ?_ | refine Qsc.exit ?_ | refine Qsc.ret ?_ | refine Qloop.exit ?_ | refine Qloop.ret ?_ | refine Wr.condT rfl ?_ | refine Wr.condF rfl ?_ | refine Wl.nilP rfl ?_ | refine Wl.fieldAddr rfl rfl ?_ | refine Wl.nilF rfl ?_ | refine Wl.add rfl rfl (by omega) (by omega) ?_ | refine Wl.sub rfl rfl (by omega) (by omega) ?_ | refine Wl.mul rfl rfl (by omega) (by omega) ?_ | refine Wl.convI rfl ?_ | (refine Wl.lss rfl rfl (fun _ => ?_) (fun _ => ?_) <;> (first | (exfalso; omega) | (exfalso; contradiction) | skip)) | (refine Wl.leq rfl rfl (fun _ => ?_) (fun _ => ?_) <;> (first | (exfalso; omega) | (exfalso; contradiction) | skip)) | (refine Wl.gtr rfl rfl (fun _ => ?_) (fun _ => ?_) <;> (first | (exfalso; omega) | (exfalso; contradiction) | skip)) | (refine Wl.geq rfl rfl (fun _ => ?_) (fun _ => ?_) <;> (first | (exfalso; omega) | (exfalso; contradiction) | skip)) | (refine Wl.eql rfl rfl (fun _ => ?_) (fun _ => ?_) <;> (first | (exfalso; omega) | (exfalso; contradiction) | skip)) | (refine Wl.neq rfl rfl (fun _ => ?_) (fun _ => ?_) <;> (first | (exfalso; omega) | (exfalso; contradiction) | skip)) | (refine Wl.seql rfl rfl (fun _ => ?_) (fun _ => ?_) <;> (first | (exfalso; omega) | (exfalso; contradiction) | skip)) | (refine Wl.sneq rfl rfl (fun _ => ?_) (fun _ => ?_) <;> (first | (exfalso; omega) | (exfalso; contradiction) | skip))))
    refine Wl.load1 rfl (q4.cell (o := 0) rfl) ?_
    refine Wl.loadB q6 rfl rfl ?_
    have zW := q1.size
    have zL := qL.lt
    refine Wl.append1 (y := y) goodEv q5 rfl rfl rfl rfl rfl (by omega) (by omega) (by simp only [maxLen, List.length_take]; omega) (by simp only [List.length_take]; omega) rfl rfl fun u' W4 p o4 d4 lie => ?_
    rw [← take_snoc' hy] at o4
    have q4' := q4.chg d4 fun e => by have := (q5.lt e).1; omega
    refine Wl.store1 q4' rfl (by simp) rfl (by obtain ⟨_, _, rfl, _⟩ := o4.form; rfl) fun W5 q7 d5 => ?_
    have z4 := d4.size
    have z5 := d5.size
    have e35 : Chg (fun j => u.ownBlock = some j ∨ j = w1.heap.size) W3 W5 := Chg.trans (d4.mono fun _ _ e => .inl e) (d5.mono fun _ _ e => .inr e) fun _ _ e => e
    have hun : ∀ j, u.ownBlock = some j → w2.heap.size ≤ j := fun j e => (q5.lt e).1
    have hu' : ∀ j, u'.ownBlock = some j → j ≠ w1.heap.size := by
      intro j e
      rcases lie with lie | lie
      · rw [lie] at e; have := hun j e; omega
      · have := lie j e; omega
    (repeat' (first | refine Wl.moveE (by conv => { lhs; whnf }) ?_ | refine Wl.assignE (by conv => { lhs; whnf }) ?_ | refine Wl.nil ?_ | refine Wl.extract rfl rfl ?_ | refine Wl.guardY rfl rfl ?_ | refine Wl.guardN rfl rfl ?_ | refine Wl.guardU rfl ?_ | refine Wl.pickTE rfl (by conv => { lhs; whnf }) ?_ | refine Wl.pickFE rfl (by conv => { lhs; whnf }) ?_ | refine Wl.notB rfl ?_ | refine Wl.lenS rfl ?_ | refine Wl.lenStr rfl ?_ | refine Qsr.normal ?_ | refine Wr.seq ?_ | refine Wr.region rfl (by repeat' (first | exact Qfn.out (by rintro _ ⟨⟨_, e⟩, _⟩; cases e) | exact Qrd.out | exact Qas.out | refine Qsr.out ?_ | refine Qloop.out ?_ | refine Qsc.out ?_ | refine Qblk.out ?_)) ?_ | refine Wr.block ?_ | refine Wr.skip ?_ | refine Wr.exit ?_ | refine Wr.ret ?_ | refine Qsr.exit ?_ | refine Qsr.ret ?_ | refine Qblk.normal ?_ | refine Qblk.ret ?_ | refine Qblk.hit ?_ | refine Qblk.miss rfl ?_ | refine Wr.scope ?_ | refine Wr.label ?_ | refine Qsc.normal ?_ | refine Qsc.exit ?_ | refine Qsc.ret ?_ | refine Qloop.exit ?_ | refine Qloop.ret ?_ | refine Wr.condT rfl ?_ | refine Wr.condF rfl ?_ | refine Wl.nilP rfl ?_ | refine Wl.fieldAddr rfl rfl ?_ | refine Wl.nilF rfl ?_ | refine Wl.add rfl rfl (by omega) (by omega) ?_ | refine Wl.sub rfl rfl (by omega) (by omega) ?_ | refine Wl.mul rfl rfl (by omega) (by omega) ?_ | refine Wl.convI rfl ?_ | (refine Wl.lss rfl rfl (fun _ => ?_) (fun _ => ?_) <;> (first | (exfalso; omega) | (exfalso; contradiction) | skip)) | (refine Wl.leq rfl rfl (fun _ => ?_) (fun _ => ?_) <;> (first | (exfalso; omega) | (exfalso; contradiction) | skip)) | (refine Wl.gtr rfl rfl (fun _ => ?_) (fun _ => ?_) <;> (first | (exfalso; omega) | (exfalso; contradiction) | skip)) | (refine Wl.geq rfl rfl (fun _ => ?_) (fun _ => ?_) <;> (first | (exfalso; omega) | (exfalso; contradiction) | skip)) | (refine Wl.eql rfl rfl (fun _ => ?_) (fun _ => ?_) <;> (first | (exfalso; omega) | (exfalso; contradiction) | skip)) | (refine Wl.neq rfl rfl (fun _ => ?_) (fun _ => ?_) <;> (first | (exfalso; omega) | (exfalso; contradiction) | skip)) | (refine Wl.seql rfl rfl (fun _ => ?_) (fun _ => ?_) <;> (first | (exfalso; omega) | (exfalso; contradiction) | skip)) | (refine Wl.sneq rfl rfl (fun _ => ?_) (fun _ => ?_) <;> (first | (exfalso; omega) | (exfalso; contradiction) | skip))))
    refine ⟨e35.block _ qL.lt ?_, e35.block _ qD.lt ?_, Chg.trans q1 e35 fun j hj e => ?_, by have := qL.lt; omega, q3.chg e35 ?_ ?_, u', q7, ?_⟩
    · rintro (e | e)
      · exact q5.nl qL e rfl
      · omega
    · rintro (e | e)
      · exact q5.nl qD e rfl
      · omega
    · rcases e with e | e
      · have := hun j e; omega
      · omega
    · rintro (e | e)
      · have := hun _ e; omega
      · omega
    · rintro j hj (e | e)
      · have := hun _ e; omega
      · omega
    · exact (o4.chg (plain_flat _) d5 fun j e e' => hu' j e e').mono goodEv.mo (fun j _ e => by rcases e with e | e <;> omega) fun _ _ e => e
  · rintro W ⟨h1, h2, h3, u, h4, h5⟩ hD
    rw [List.take_length] at h5
    (repeat' (first | refine Wl.moveE (by conv => { lhs; whnf }) ?_ | refine Wl.assignE (by conv => { lhs; whnf }) ?_ | refine Wl.nil ?_ | refine Wl.extract rfl rfl ?_ | refine Wl.guardY rfl rfl ?_ | refine Wl.guardN rfl rfl ?_ | refine Wl.guardU rfl ?_ | refine Wl.pickTE rfl (by conv => { lhs; whnf }) ?_ | refine Wl.pickFE rfl (by conv => { lhs; whnf }) ?_ | refine Wl.notB rfl ?_ | refine Wl.lenS rfl ?_ | refine Wl.lenStr rfl ?_ | refine Wd.seq ?_ | refine Wd.block ?_ | refine Wd.condT rfl ?_ | refine Wd.condF rfl ?_ | refine Qds.normal ?_ | refine Qds.exit ?_ | refine Qds.ret ?_ | refine Qdb.normal ?_ | refine Qdb.ret ?_ | refine Qdb.hit ?_ | refine Qdb.miss rfl ?_ | refine Qdn.e ?_ | refine Wd.region ?_ | refine Wd.skip ?_ | refine Wd.exit ?_ | refine Wd.ret ?_ | refine Wl.nilP rfl ?_ | refine Wl.fieldAddr rfl rfl ?_ | refine Wl.nilF rfl ?_ | refine Wl.add rfl rfl (by omega) (by omega) ?_ | refine Wl.sub rfl rfl (by omega) (by omega) ?_ | refine Wl.mul rfl rfl (by omega) (by omega) ?_ | refine Wl.convI rfl ?_ | (refine Wl.lss rfl rfl (fun _ => ?_) (fun _ => ?_) <;> (first | (exfalso; omega) | (exfalso; contradiction) | skip)) | (refine Wl.leq rfl rfl (fun _ => ?_) (fun _ => ?_) <;> (first | (exfalso; omega) | (exfalso; contradiction) | skip)) | (refine Wl.gtr rfl rfl (fun _ => ?_) (fun _ => ?_) <;> (first | (exfalso; omega) | (exfalso; contradiction) | skip)) | (refine Wl.geq rfl rfl (fun _ => ?_) (fun _ => ?_) <;> (first | (exfalso; omega) | (exfalso; contradiction) | skip)) | (refine Wl.eql rfl rfl (fun _ => ?_) (fun _ => ?_) <;> (first | (exfalso; omega) | (exfalso; contradiction) | skip)) | (refine Wl.neq rfl rfl (fun _ => ?_) (fun _ => ?_) <;> (first | (exfalso; omega) | (exfalso; contradiction) | skip)) | (refine Wl.seql rfl rfl (fun _ => ?_) (fun _ => ?_) <;> (first | (exfalso; omega) | (exfalso; contradiction) | skip)) | (refine Wl.sneq rfl rfl (fun _ => ?_) (fun _ => ?_) <;> (first | (exfalso; omega) | (exfalso; contradiction) | skip))))
    refine Wl.load1 rfl (h4.cell (o := 0) rfl) ?_
    refine Wl.call (events_spec (h5.rd goodEv.mo) (by omega)) rfl ?_
    rintro r W1 ⟨o1, m1⟩
    (repeat' (first | refine Wl.moveE (by conv => { lhs; whnf }) ?_ | refine Wl.assignE (by conv => { lhs; whnf }) ?_ | refine Wl.nil ?_ | refine Wl.extract rfl rfl ?_ | refine Wl.guardY rfl rfl ?_ | refine Wl.guardN rfl rfl ?_ | refine Wl.guardU rfl ?_ | refine Wl.pickTE rfl (by conv => { lhs; whnf }) ?_ | refine Wl.pickFE rfl (by conv => { lhs; whnf }) ?_ | refine Wl.notB rfl ?_ | refine Wl.lenS rfl ?_ | refine Wl.lenStr rfl ?_ | refine Wd.seq ?_ | refine Wd.block ?_ | refine Wd.condT rfl ?_ | refine Wd.condF rfl ?_ | refine Qds.normal ?_ | refine Qds.exit ?_ | refine Qds.ret ?_ | refine Qdb.normal ?_ | refine Qdb.ret ?_ | refine Qdb.hit ?_ | refine Qdb.miss rfl ?_ | refine Qdn.e ?_ | refine Wd.region ?_ | refine Wd.skip ?_ | refine Wd.exit ?_ | refine Wd.ret ?_ | refine Wl.nilP rfl ?_ | refine Wl.fieldAddr rfl rfl ?_ | refine Wl.nilF rfl ?_ | refine Wl.add rfl rfl (by omega) (by omega) ?_ | refine Wl.sub rfl rfl (by omega) (by omega) ?_ | refine Wl.mul rfl rfl (by omega) (by omega) ?_ | refine Wl.convI rfl ?_ | (refine Wl.lss rfl rfl (fun _ => ?_) (fun _ => ?_) <;> (first | (exfalso; omega) | (exfalso; contradiction) | skip)) | (refine Wl.leq rfl rfl (fun _ => ?_) (fun _ => ?_) <;> (first | (exfalso; omega) | (exfalso; contradiction) | skip)) | (refine Wl.gtr rfl rfl (fun _ => ?_) (fun _ => ?_) <;> (first | (exfalso; omega) | (exfalso; contradiction) | skip)) | (refine Wl.geq rfl rfl (fun _ => ?_) (fun _ => ?_) <;> (first | (exfalso; omega) | (exfalso; contradiction) | skip)) | (refine Wl.eql rfl rfl (fun _ => ?_) (fun _ => ?_) <;> (first | (exfalso; omega) | (exfalso; contradiction) | skip)) | (refine Wl.neq rfl rfl (fun _ => ?_) (fun _ => ?_) <;> (first | (exfalso; omega) | (exfalso; contradiction) | skip)) | (refine Wl.seql rfl rfl (fun _ => ?_) (fun _ => ?_) <;> (first | (exfalso; omega) | (exfalso; contradiction) | skip)) | (refine Wl.sneq rfl rfl (fun _ => ?_) (fun _ => ?_) <;> (first | (exfalso; omega) | (exfalso; contradiction) | skip))))
    refine Lv.mark (by simp) ((m1.block _ (Array.getElem?_eq_some_iff.1 hD).1 id).trans hD) ?_
    have z := n02.size
    have zW := h1.size
    have zD := m1.size
    have nD : NoC W1 w2.heap.size := .mark ((m1.block _ (Array.getElem?_eq_some_iff.1 hD).1 id).trans hD)
    refine Lv.ret (v := r) (results1 rfl (rvOf_tmp rfl)) ⟨_, rfl, (o1.put _ (plain_flat _) nD).mono goodEv.mo (fun j _ e => by omega) (fun _ _ e => e), (h1.trans m1).put _ (by omega)⟩
  · exact fun _ h => h.elim
  · exact fun _ _ h => h.elim
theorem each_spec {Pb : Nat → Prop} {w : World} {b : Nat} {t : Tr} (h : Rg Pb w b t) : Calls Tryz.prog 15 #[pT b] w (Ret fun r w' => OwnS rEv 26 6 (fun b => w.heap.size ≤ b) No w' r t.kept ∧ New w w') :=
  each_spec' (by have := h.ok.len; have := h.ok.s1; omega) (Each_spec h)
theorem each_nil {w : World} : Calls Tryz.prog 15 #[.pointer none] w (Ret fun r w' => OwnS rEv 26 6 (fun b => w.heap.size ≤ b) No w' r [] ∧ New w w') :=
  each_spec' (by simp) Each_nil
end Go.Proofs.YtjaendlcijmifaaGreatDoor

namespace Go.Proofs.YtjaendlcijmifaaGreatDoor
open Go Wk
open Go.RowKit (Below)
attribute [local irreducible] Go.Calls

section
variable {P : Program} {n : Nat} {ds : List Deferred} {Q : Po} {F : Fr} {w : World} {ops rest : List Oper} {d : Nat} {ty : TypeId} {pos : String} {aft : Array Edge}
/-- a[:k] of an array's variable. -/
theorem Wk.Wl.sliceArrTo {x i : Operand} {t e m bytes b : Nat} {agg : Bool} {z : Value} {k : IntKind} {j : Nat} [ht : Und P t (.array m e)] [he : ElT P e 1 bytes agg z] (hx : ev n F x = .pointer (some ⟨b, 0, none⟩)) (hi : ev n F i = .int k j) (h1 : j ≤ m)
    (c : Wl P n ds Q ops rest (upd F d (.slice (some ⟨b, 0, none⟩) j m)) w) : Wl P n ds Q ops (⟨some d, .slice t x none (some i) none, ty, pos, aft, none⟩ :: rest) F w := by
  refine Wl.val ?_ c
  have hr : (Instr.sliceAt t (.pointer (some ⟨b, 0, none⟩)) none (some (.int k j)) none).run P w = .ok (.slice (some ⟨b, 0, none⟩) j m) w := by
    rcases Nat.eq_zero_or_pos m with h0 | h0
    · subst h0
      obtain rfl : j = 0 := by omega
      simp [Instr.sliceAt, run_underlying ht.h, Instr.sliceBounds, Instr.sliceBound, asIntOf, he.sizeOf, Instr.sureAddr, addr_add]
    · have h2 : ¬ m = 0 := by omega
      simp [Instr.sliceAt, run_underlying ht.h, Instr.sliceBounds, Instr.sliceBound, asIntOf, he.sizeOf, Instr.sureAddr, addr_add, h1, h2]
  simp only [execOp, hx, hi, Option.map_some, Option.map_none, Sem.run_bind, hr, Result.andThen_ok, Sem.run_pure]
end
/-- The table of the powers of ten. -/
def Tb (w : World) : Prop := Lib.TabIs Tryz.prog w "internal/strconv.uint64pow10" .u64 Lib.pow10Tab
theorem Tb.new {w w' : World} (h : Tb w) (n : New w w') : Tb w' := by
  unfold Tb Lib.TabIs World.var? at *
  cases hg : Tryz.prog.globalNamed "internal/strconv.uint64pow10" with
  | none => simp [hg] at h
  | some g =>
    simp only [hg, Option.bind_some] at h ⊢
    have hlt : g < w.heap.size := by
      rcases Nat.lt_or_ge g w.heap.size with h' | h'
      · exact h'
      · rw [Array.getElem?_eq_none h'] at h; simp at h
    rw [n.block g hlt id]
    exact h
def decN (n : Nat) : List UInt8 := Lib.decDigits n
def decI (n : Int) : List UInt8 := Lib.itoa n
theorem chg_putRow {w : World} {blk off k : Nat} {d : Array UInt8} : Chg (fun j => j = blk) w ((Sort.putRow (fun (b : UInt8) => Value.int .u8 (b.toNat : Int)) w blk off d).drewN k) :=
  ⟨rfl, rfl, rfl, by simp [Sort.putRow, Sort.mapBlock, World.drewN], fun j hj hn => by
    have : ¬ blk = j := fun e => hn e.symm
    simp [Sort.putRow, Sort.mapBlock, World.drewN, Array.getElem?_modify, this]⟩
theorem bk_putRow {w : World} {blk k : Nat} {T : TypeId} {cs : List Value} {d : Array UInt8} (h : Bk w blk T cs) : ((Sort.putRow (fun (b : UInt8) => Value.int .u8 (b.toNat : Int)) w blk 0 d).drewN k).heap[blk]? = some (.cells (Sort.putCells (fun (b : UInt8) => Value.int .u8 (b.toNat : Int)) 0 d cs.toArray) T (0, 0)) := by
  unfold Bk at h
  simp [Sort.putRow, Sort.mapBlock, World.drewN, Array.getElem?_modify, h, Sort.onCells]
theorem rd_putRow {w : World} {blk k : Nat} {T : TypeId} {cs : List Value} {d : Array UInt8} {l : List UInt8} (h : Bk w blk T cs) (hl : l.length = d.size) (hc : d.size ≤ cs.length) (hm : cs.length ≤ maxLen) (he : ∀ (j : Nat) (hj : j < l.length), l[j] = d[j]!) :
    RdS (Wk.one by8) 1 (fun _ => True) ((Sort.putRow (fun (b : UInt8) => Value.int .u8 (b.toNat : Int)) w blk 0 d).drewN k) (.slice (some ⟨blk, 0, none⟩) l.length cs.length) l := by
  refine .inr (.inr ⟨blk, 0, cs.length, _, T, (0, 0), rfl, trivial, bk_putRow h, by omega, hm, ?_, fun i x hx => ?_⟩)
  · simp [Sort.putCells]; omega
  · obtain ⟨hi, hx⟩ := List.getElem?_eq_some_iff.1 hx
    have h1 : i < d.size := by omega
    have h2 : (Sort.putCells (fun (b : UInt8) => Value.int .u8 (b.toNat : Int)) 0 d cs.toArray)[i]? = some (by8 x) := by
      rw [Sort.putCells, Array.getElem?_mapIdx, List.getElem?_toArray, List.getElem?_eq_getElem (by omega), Option.map_some, if_pos ⟨Nat.zero_le _, by omega⟩, Nat.sub_zero, ← he i hi, hx]
    rw [← Array.getElem?_toList] at h2
    obtain ⟨h3, h4⟩ := List.getElem?_eq_some_iff.1 h2
    show ((Array.toList _).drop (0 + i * 1)).take 1 = [by8 x]
    rw [Nat.zero_add, Nat.mul_one, List.drop_eq_getElem_cons h3, h4]; rfl
theorem small_spec {w : World} {i : Nat} (h : i < 100) : Calls Tryz.prog 93 #[vi i] w (Ret fun r w' => r = vs (decN i) ∧ w = w') := by
  refine (Tryz.internal_strconv_small i h w).mono ?_
  rintro e w' ⟨rfl, rfl⟩
  exact ⟨_, rfl, rfl, rfl⟩
theorem numDigits_spec {w : World} {u : Nat} (ht : Tb w) (h1 : 1 ≤ u) (h2 : u < 18446744073709551616) : Calls Tryz.prog 94 #[.int .u64 u] w (Ret fun r w' => r = vi (Lib.nDigits u) ∧ w = w') := by
  refine (Tryz.internal_strconv_numDigits u h1 h2 w ht).mono ?_
  rintro e w' ⟨rfl, rfl⟩
  exact ⟨_, rfl, rfl, rfl⟩
set_option maxRecDepth 4000 in
set_option maxHeartbeats 1000000 in
theorem iFormatUint_spec {w : World} {u : Nat} (ht : Tb w) (hu : u < 18446744073709551616) :
    Calls Tryz.prog 73 #[.int .u64 u, vi 10] w (Ret fun r w' => r = vs (decN u) ∧ New w w') := by
  refine calls_of_Wc Tryz.func73 rfl Tryz.ntmps73 rfl ?_
  (repeat' (first | refine Wl.moveE (by conv => { lhs; whnf }) ?_ | refine Wl.assignE (by conv => { lhs; whnf }) ?_ | refine Wl.nil ?_ | refine Qseq.normal ?_ | refine Wc.seq ?_ | refine Wc.region ?_ | refine Wc.skip ?_ | refine Wc.condT rfl ?_ | refine Wc.condF rfl ?_ | refine Wl.convI rfl ?_ | refine Wl.lss rfl rfl (fun _ => ?_) (fun _ => ?_) | (refine Wl.eql rfl rfl (fun _ => ?_) (fun _ => ?_) <;> (first | (exfalso; omega) | skip))))
  · rw [wrap64_id (by omega) (by omega)]
    refine Wl.call (small_spec (by omega)) rfl ?_
    rintro _ _ ⟨rfl, rfl⟩
    (repeat' (first | refine Wl.assignE (by conv => { lhs; whnf }) ?_ | refine Wl.nil ?_ | refine Qseq.normal ?_ | refine Wc.ret ?_ | refine Qseq.ret ?_))
    exact Qfn.ret1 rfl rfl ⟨_, rfl, rfl, Chg.refl _ _⟩
  · have hu1 : 1 ≤ u := by omega
    have hnd20 : Lib.nDigits u ≤ 20 := by have := Lib.numDigits_eq u hu1 hu; split at this <;> omega
    refine Wl.alloc fun w1 b1 n1 s1 => ?_
    replace b1 : Bk w1 w.heap.size 129 (List.replicate 24 (.int .u8 0)) := b1
    (repeat' (first | refine Wl.moveE (by conv => { lhs; whnf }) ?_ | refine Wl.nil ?_ | refine Qseq.normal ?_ | refine Wc.seq ?_ | refine Wc.region ?_))
    refine Wl.call (numDigits_spec (ht.new n1) hu1 hu) rfl ?_
    rintro _ _ ⟨rfl, rfl⟩
    (repeat' (first | refine Wl.moveE (by conv => { lhs; whnf }) ?_ | refine Wl.assignE (by conv => { lhs; whnf }) ?_ | refine Wl.nil ?_ | refine Qseq.normal ?_ | refine Wc.seq ?_ | refine Wc.region ?_))
    refine Wl.sliceArrTo (j := Lib.nDigits u) rfl rfl (by omega) ?_
    (repeat' (refine Wl.moveE (by conv => { lhs; whnf }) ?_))
    have hH : Sort.Holds (fun (b : UInt8) => Value.int .u8 (b.toNat : Int)) w1 w.heap.size 0 (Array.replicate (Lib.nDigits u) (0 : UInt8)) := fun j hj => by
      have hj' : j < Lib.nDigits u := by simpa using hj
      refine ⟨?_, b1.frozen _⟩
      rw [Nat.zero_add, b1.cell (u := .int .u8 0) (by rw [List.getElem?_replicate, if_pos (by omega)])]
      simp [hj']
    have hfmt := Tryz.internal_strconv_formatBase10 w.heap.size 0 24 u (Array.replicate (Lib.nDigits u) 0) w1 hH (by rw [Array.size_replicate]; exact Lib.lt_pow_nDigits u) hu (by rw [Array.size_replicate]; omega)
    rw [Array.size_replicate] at hfmt
    refine Wl.call (φ := fun r w' => ∃ (k v' : Nat) (dk : Array UInt8), w' = (Sort.putRow (fun (b : UInt8) => Value.int .u8 (b.toNat : Int)) w1 w.heap.size 0 dk).drewN k ∧ Lib.FmtInv (Lib.nDigits u) u 0 v' dk) (hfmt.mono fun e w' h => ⟨_, h.1, h.2⟩) rfl ?_
    rintro r _ ⟨k, v', dk, rfl, hF⟩
    have hds : dk.size = Lib.nDigits u := hF.size
    have hr := rd_putRow (k := k) (d := dk) (l := Lib.decDigits u) b1 (by rw [Lib.decDigits_length, hds]) (by rw [hds, List.length_replicate]; omega) (by rw [List.length_replicate]; decide) fun j hj => Lib.row_is_numeral hF j hj
    have c2 := chg_putRow (w := w1) (blk := w.heap.size) (off := 0) (k := k) (d := dk)
    generalize (Sort.putRow (fun (b : UInt8) => Value.int .u8 (b.toNat : Int)) w1 w.heap.size 0 dk).drewN k = w2 at hr c2 ⊢
    (repeat' (first | refine Wl.moveE (by conv => { lhs; whnf }) ?_ | refine Wl.nil ?_ | refine Qseq.normal ?_ | refine Wc.seq ?_ | refine Wc.region ?_))
    refine Wl.sliceArrTo (j := Lib.nDigits u) rfl rfl (by omega) ?_
    rw [← Lib.decDigits_length]
    refine Wl.bytesStr hr rfl ?_
    (repeat' (first | refine Wl.assignE (by conv => { lhs; whnf }) ?_ | refine Wl.nil ?_ | refine Qseq.normal ?_ | refine Wc.ret ?_ | refine Qseq.ret ?_))
    exact Qfn.ret1 rfl rfl ⟨_, rfl, rfl, Chg.trans n1 c2 fun j hj e => by omega⟩
theorem FormatUint_spec {w : World} {u : Nat} (ht : Tb w) (hu : u < 18446744073709551616) :
    Calls Tryz.prog 42 #[.int .u64 u, vi 10] w (Ret fun r w' => r = vs (decN u) ∧ New w w') := by
  refine calls_of_Wc Tryz.func42 rfl Tryz.ntmps42 rfl ?_
  (repeat' (first | refine Wl.moveE (by conv => { lhs; whnf }) ?_ | refine Wl.assignE (by conv => { lhs; whnf }) ?_ | refine Wl.nil ?_ | refine Qseq.normal ?_ | refine Wc.seq ?_ | refine Wc.region ?_))
  refine Wl.call (iFormatUint_spec ht hu) rfl ?_
  rintro _ w1 ⟨rfl, n1⟩
  (repeat' (first | refine Wl.assignE (by conv => { lhs; whnf }) ?_ | refine Wl.nil ?_ | refine Qseq.normal ?_ | refine Wc.ret ?_))
  exact Qfn.ret1 rfl rfl ⟨_, rfl, rfl, n1⟩
theorem FormatInt_spec {w : World} {x : Int} (ht : Tb w) (h0 : -9223372036854775808 ≤ x) (h1 : x ≤ 9223372036854775807) :
    Calls Tryz.prog 43 #[vi x, vi 10] w (Ret fun r w' => r = vs (decI x) ∧ New w w') := by
  refine (Tryz.strconv_FormatInt_10 x h0 h1 w ht).mono ?_
  rintro e w' ⟨rfl, k, os, rfl⟩
  exact ⟨_, rfl, rfl, New.ofBelow (Lib.below_grow _ w (Nat.le_refl _) k os)⟩
theorem nDigits_le {u : Nat} (hu : u < 18446744073709551616) : Lib.nDigits u ≤ 20 := by
  rcases Nat.eq_zero_or_pos u with h | h
  · subst h; rw [Lib.nDigits_small (by omega)]; omega
  · have := Lib.numDigits_eq u h hu; split at this <;> omega
theorem decN_len {u : Nat} (hu : u < 18446744073709551616) : (decN u).length ≤ 20 := by unfold decN; rw [Lib.decDigits_length]; exact nDigits_le hu
theorem decI_len {x : Int} (h0 : -9223372036854775808 ≤ x) (h1 : x ≤ 9223372036854775807) : (decI x).length ≤ 21 := by
  unfold decI Lib.itoa
  split
  · have := nDigits_le (u := x.natAbs) (by omega)
    rw [List.length_cons, Lib.decDigits_length]; omega
  · have := nDigits_le (u := x.toNat) (by omega)
    rw [Lib.decDigits_length]; omega
end Go.Proofs.YtjaendlcijmifaaGreatDoor

namespace Go.Proofs.YtjaendlcijmifaaGreatDoor.Wk
open Go Go.RowKit

section
variable {P : Program} {r : Option Nat} {md : Region.Mode} {ops : Array Oper} {Q : Exit → Act → World → Prop}
theorem opIn_of (hout : ¬ LetsOut Q) (hpl : ∀ (i : Nat) (o : Oper), ops[i]? = some o → ∀ c, o.op ≠ .defer c) {i : Nat} {K K' : Act → World → Prop} (hK : ∀ a w, K a w → K' a w) {a : Act} {w : World} (h : wpOp P ops Q i K a w) : wpOpIn (FR r) 0 P ops Q i K' a w := by
  have triv : ∀ f, (FR r).fn f := by cases r <;> exact fun _ => trivial
  unfold wpOp at h
  unfold wpOpIn
  split
  · rename_i ho
    rw [ho] at h; exact hK _ _ h
  · rename_i o ho
    simp only [ho] at h
    split
    · rename_i hw
      rw [if_pos hw] at h
      rcases h with h | ⟨_, h⟩
      · refine ⟨fun f _ => triv f, ?_⟩
        rw [Oper.semAt_eq _ _ _ (hpl i o ho)]
        exact uponIn_of hK h
      · exact absurd h hout
    · rename_i hw
      rw [if_neg hw] at h
      exact ⟨fun f _ => triv f, hK _ _ h⟩
theorem anyIn_of (hout : ¬ LetsOut Q) (hpl : ∀ (i : Nat) (o : Oper), ops[i]? = some o → ∀ c, o.op ≠ .defer c) : ∀ (fuel : Nat) (listed : Array Bool) (a : Act) (w : World), wpAny P md ops Q fuel listed a w → wpAnyIn (FR r) 0 P md ops Q fuel listed a w
  | 0, _, _, _, h => h
  | fuel + 1, _, _, _, h => ⟨h.1, fun i hi => opIn_of hout hpl (fun a w h' => anyIn_of hout hpl fuel _ a w h') (h.2 i hi)⟩
end
section
variable {P : Program} {n : Nat} {r : Option Nat} {ops : List Oper} {Q : Po} {F : Fr} {w : World}
theorem Wr.regionT {rid : Nat} (hpl : plainL ops = true) (hQ : ∀ F w, ¬ Q .outgrown F w) (hm : P.follows .mixedOrders = true) (hB : okT ops.toArray = true) (C : World → Prop) (hC : C w.drew) (h : ∀ w', New w w' → Wt P n [] C Q ops ops F w') : Wr P n r Q (.region rid ops.toArray true) F w := by
  unfold Wr
  refine wpIn_region_any hm (anyIn_of (fun hx => by obtain ⟨a, w, F', _, hq⟩ := hx; exact hQ F' w hq) (fun i o ho c e => ?_) _ _ _ _ ?_)
  · unfold plainL at hpl
    have := List.all_eq_true.1 hpl o (List.mem_of_getElem? (by simpa using ho))
    rw [e] at this; cases this
  have hleft : left ops.toArray (Array.replicate ops.toArray.size false) = (List.range ops.length).map (0 + ·) := by
    unfold left
    rw [show ((fun x => 0 + x) : Nat → Nat) = id from funext fun x => Nat.zero_add x, List.map_id]
    simp only [List.size_toArray]
    refine List.filter_eq_self.2 fun k hk => ?_
    have := List.mem_range.1 hk
    simp [Array.getD_eq_getD_getElem?, Array.getElem?_replicate, this]
  have h0 : Clos ops.toArray (Array.replicate ops.toArray.size false) := by
    intro j o hj
    exfalso
    simp only [Array.getD_eq_getD_getElem?, Array.getElem?_replicate] at hj
    split at hj <;> simp at hj
  refine wpAny_of_TS (C := C) hB _ _ _ _ (by simp) (by rw [hleft]; simp) h0 (fun _ => hC) ?_
  rw [hleft]
  exact TS_of_Wt ops 0 F w.drew (fun j => by rw [Nat.zero_add]) (h _ (Chg.drew _ _))
end
end Go.Proofs.YtjaendlcijmifaaGreatDoor.Wk

namespace Go.Proofs.YtjaendlcijmifaaGreatDoor
open Go Wk
open Go.RowKit (Below)
attribute [local irreducible] Go.Calls

/-- An event's line. -/
def lineH (x : Ev) : List UInt8 := decN x.id ++ [32] ++ decI x.tm ++ [32] ++ nameK x.kd ++ [32] ++ x.pa ++ [32] ++ decI x.ar
def lineM (x : Ev) : List UInt8 := if x.ca = 0 then lineH x else lineH x ++ ([32, 98, 121, 32] ++ decN x.ca)
theorem nameK_len (k : Nat) : (nameK k).length ≤ 6 := by
  rcases Nat.lt_or_ge k 10 with h | h
  · have : ∀ k : Fin 10, (nameK k.val).length ≤ 6 := by decide
    exact this ⟨k, h⟩
  · rw [nameK_big h]; simp
theorem lineM_len {x : Ev} (hw : EvW x) : (lineM x).length ≤ x.pa.length + 100 := by
  have h1 := decN_len hw.id
  have h2 := decI_len hw.t0 hw.t1
  have h3 := nameK_len x.kd
  have h4 := decI_len hw.a0 hw.a1
  have h5 := decN_len hw.ca
  unfold lineM lineH
  split <;> simp only [List.length_append, List.length_cons, List.length_nil] <;> omega
set_option maxRecDepth 4000 in
set_option maxHeartbeats 1000000 in
theorem line_spec {w : World} {x : Ev} (ht : Tb w) (hw : EvW x) (hl : x.pa.length ≤ 100000000) :
    Calls Tryz.prog 28 #[evV x] w (Ret fun r w' => r = vs (lineM x) ∧ New w w') := by
  have h1 := decN_len hw.id
  have h2 := decI_len hw.t0 hw.t1
  have h3 := nameK_len x.kd
  have h4 := decI_len hw.a0 hw.a1
  have h5 := decN_len hw.ca
  refine calls_of_Wc Tryz.func28 rfl Tryz.ntmps28 rfl ?_
  (repeat' (first | refine Wc.seq ?_ | refine Wc.region ?_))
  refine Wl.box rfl fun w1 b1 n1 s1 => ?_
  replace b1 : Bk w1 w.heap.size 27 (evC x) := b1
  (repeat' (first | refine Wl.assignE (by conv => { lhs; whnf }) ?_ | refine Wl.nil ?_ | refine Qseq.normal ?_ | refine Wc.seq ?_))
  refine Wc.regionT rfl (by kernel_rfl) (New w1) (Chg.drew _ _) ?_
  have bx : ∀ w', New w1 w' → Bk w' w.heap.size 27 (evC x) := fun w' n => b1.chg n (fun e => e)
  have tx : ∀ {w'}, New w1 w' → Tb w' := fun n => ht.new (n1.trans n)
  intro w2 n2
  (repeat' (refine Wt.quiet rfl (Wq.fieldAddr rfl rfl (Wq.nil ?_))))
  refine Wt.quiet rfl (Wq.load1 rfl (fun w' n => (bx w' n).cell (o := 0) rfl) (Wq.nil ?_))
  refine Wt.chain rfl (Wl.call (FormatUint_spec (tx n2) hw.id) rfl ?_)
  rintro _ w3 ⟨rfl, n3⟩
  replace n3 := n2.trans n3
  refine Wl.nil ⟨rfl, n3, ?_⟩
  refine Wt.quiet rfl (Wq.sadd rfl rfl (by simp only [List.length_append, List.length_cons, List.length_nil]; omega) (Wq.nil ?_))
  (repeat' (refine Wt.quiet rfl (Wq.fieldAddr rfl rfl (Wq.nil ?_))))
  refine Wt.quiet rfl (Wq.load1 rfl (fun w' n => (bx w' n).cell (o := 2) rfl) (Wq.nil ?_))
  refine Wt.chain rfl (Wl.call (FormatInt_spec (tx n3) hw.t0 hw.t1) rfl ?_)
  rintro _ w4 ⟨rfl, n4⟩
  replace n4 := n3.trans n4
  refine Wl.nil ⟨rfl, n4, ?_⟩
  refine Wt.quiet rfl (Wq.sadd rfl rfl (by simp only [List.length_append, List.length_cons, List.length_nil]; omega) (Wq.nil ?_))
  refine Wt.quiet rfl (Wq.sadd rfl rfl (by simp only [List.length_append, List.length_cons, List.length_nil]; omega) (Wq.nil ?_))
  (repeat' (refine Wt.quiet rfl (Wq.fieldAddr rfl rfl (Wq.nil ?_))))
  refine Wt.quiet rfl (Wq.load1 rfl (fun w' n => (bx w' n).cell (o := 3) rfl) (Wq.nil ?_))
  refine Wt.chain rfl (Wl.call (name_spec hw.kd) rfl ?_)
  rintro _ w5 ⟨rfl, n5⟩
  replace n5 := n4.trans n5
  refine Wl.nil ⟨rfl, n5, ?_⟩
  refine Wt.quiet rfl (Wq.sadd rfl rfl (by simp only [List.length_append, List.length_cons, List.length_nil]; omega) (Wq.nil ?_))
  refine Wt.quiet rfl (Wq.sadd rfl rfl (by simp only [List.length_append, List.length_cons, List.length_nil]; omega) (Wq.nil ?_))
  (repeat' (refine Wt.quiet rfl (Wq.fieldAddr rfl rfl (Wq.nil ?_))))
  refine Wt.quiet rfl (Wq.load1 rfl (fun w' n => (bx w' n).cell (o := 4) rfl) (Wq.nil ?_))
  refine Wt.quiet rfl (Wq.sadd rfl rfl (by simp only [List.length_append, List.length_cons, List.length_nil]; omega) (Wq.nil ?_))
  refine Wt.quiet rfl (Wq.sadd rfl rfl (by simp only [List.length_append, List.length_cons, List.length_nil]; omega) (Wq.nil ?_))
  (repeat' (refine Wt.quiet rfl (Wq.fieldAddr rfl rfl (Wq.nil ?_))))
  refine Wt.quiet rfl (Wq.load1 rfl (fun w' n => (bx w' n).cell (o := 5) rfl) (Wq.nil ?_))
  refine Wt.chain rfl (Wl.call (FormatInt_spec (tx n5) hw.a0 hw.a1) rfl ?_)
  rintro _ w6 ⟨rfl, n6⟩
  replace n6 := n5.trans n6
  refine Wl.nil ⟨rfl, n6, ?_⟩
  refine Wt.quiet rfl (Wq.sadd rfl rfl (by simp only [List.length_append, List.length_cons, List.length_nil]; omega) (Wq.nil ?_))
  (repeat' (first | refine Wt.nil ?_ | refine Wt.quiet rfl (Wq.assignE (by conv => { lhs; whnf }) (Wq.nil ?_))))
  have hH : decN x.id ++ [32] ++ decI x.tm ++ [32] ++ nameK x.kd ++ [32] ++ x.pa ++ [32] ++ decI x.ar = lineH x := rfl
  have hHl : (lineH x).length ≤ x.pa.length + 80 := by unfold lineH; simp only [List.length_append, List.length_cons, List.length_nil]; omega
  rw [hH]
  have b6 := bx _ n6
  (repeat' (first | refine Qseq.normal ?_ | refine Wc.seq ?_ | refine Wc.region ?_ | refine Wl.fieldAddr rfl rfl ?_))
  refine Wl.load1 rfl (b6.cell (o := 1) rfl) ?_
  have n06 := n1.trans n6
  (repeat' (first | refine Wl.moveE (by conv => { lhs; whnf }) ?_ | refine Wl.assignE (by conv => { lhs; whnf }) ?_ | refine Wl.nil ?_ | refine Qseq.normal ?_ | refine Wc.seq ?_ | refine Wc.region ?_ | refine Wc.skip ?_ | refine Wc.ret ?_ | refine Wc.condT rfl ?_ | refine Wc.condF rfl ?_ | refine Wl.fieldAddr rfl rfl ?_ | refine Wl.gtr rfl rfl (fun _ => ?_) (fun _ => ?_)))
  · refine Wl.load1 rfl (b6.cell (o := 1) rfl) ?_
    refine Wl.call (FormatUint_spec (tx n6) hw.ca) rfl ?_
    rintro _ w7 ⟨rfl, n7⟩
    refine Wl.sadd rfl rfl (by simp only [List.length_cons, List.length_nil]; omega) ?_
    refine Wl.sadd rfl rfl (by simp only [List.length_append, List.length_cons, List.length_nil]; omega) ?_
    (repeat' (first | refine Wl.moveE (by conv => { lhs; whnf }) ?_ | refine Wl.assignE (by conv => { lhs; whnf }) ?_ | refine Wl.nil ?_ | refine Qseq.normal ?_ | refine Wc.seq ?_ | refine Wc.region ?_ | refine Wc.ret ?_))
    refine Qfn.ret1 rfl rfl ⟨_, rfl, ?_, n06.trans n7⟩
    unfold lineM
    rw [if_neg (by omega)]; rfl
  · refine Qfn.ret1 rfl rfl ⟨_, rfl, ?_, n06⟩
    unfold lineM
    rw [if_pos (by omega)]; rfl
end Go.Proofs.YtjaendlcijmifaaGreatDoor

namespace Go.Proofs.YtjaendlcijmifaaGreatDoor
open Go Wk
open Go.RowKit (Below)
attribute [local irreducible] Go.Calls

theorem splitR_sum (c : UInt8) : ∀ l : List UInt8, ((splitR c l).map fun x => x.length + 1).sum = l.length + 1
  | [] => rfl
  | b :: l => by
    have ih := splitR_sum c l
    rw [splitR]
    split
    · rw [List.map_cons, List.sum_cons, ih]; simp; omega
    · have hne := splitR_ne c l
      revert ih hne
      generalize splitR c l = q
      intro ih hne
      cases q with
      | nil => exact absurd rfl hne
      | cons h t => simp only [List.map_cons, List.sum_cons, List.length_cons] at ih ⊢; omega
theorem sum_le_mul {m : Nat} : ∀ {l : List Nat}, (∀ x ∈ l, x ≤ m) → l.sum ≤ l.length * m
  | [], _ => by simp
  | x :: l, h => by
    have h1 := sum_le_mul (l := l) fun y hy => h y (by simp [hy])
    have h2 := h x (by simp)
    rw [List.sum_cons, List.length_cons, Nat.add_mul]; omega
theorem pathM_len {s : List UInt8} (h : pathM s = true) : s.length ≤ 1000 := by
  unfold pathM at h
  rcases Bool.or_eq_true _ _ ▸ h with h | h
  · rw [of_decide_eq_true h]; simp
  · simp only [Bool.and_eq_true, Bool.not_eq_true', List.any_eq_false, decide_eq_true_eq] at h
    obtain ⟨⟨⟨h0, h1⟩, h2⟩, h3⟩ := h
    have hs := splitR_sum 47 s
    have hle : ∀ x ∈ (splitR 47 s).map fun x => x.length + 1, x ≤ 32 := by
      intro x hx
      obtain ⟨y, hy, rfl⟩ := List.mem_map.1 hx
      obtain ⟨k, hk⟩ := List.mem_iff_getElem?.1 hy
      cases k with
      | zero =>
        rw [h0] at hk
        cases hk; simp
      | succ k =>
        have hm : y ∈ (splitR 47 s).drop 1 := List.mem_iff_getElem?.2 ⟨k, by rw [List.getElem?_drop, Nat.add_comm]; exact hk⟩
        have := h3 y hm
        cases hn : nameOk y with
        | false => rw [hn] at this; exact absurd rfl this
        | true =>
          unfold nameOk at hn
          rw [Bool.and_eq_true] at hn
          have := of_decide_eq_true hn.1
          omega
    have := sum_le_mul hle
    rw [List.length_map] at this
    have h4 : (splitR 47 s).length * 32 ≤ 16 * 32 := Nat.mul_le_mul_right _ h2
    omega
theorem goodS : GoodR (Wk.one vs) 1 := good_one _ fun _ => rfl
set_option maxHeartbeats 2000000 in
theorem Lines_spec' {w : World} {p : Value} {l : List Ev} (ht : Tb w) (hl : l.length ≤ 1000000) (hw : ∀ e ∈ l, EvW e ∧ e.pa.length ≤ 100000000) (hE : ∀ w', New w w' → Calls Tryz.prog 27 #[p] w' (Ret fun r w'' => SeqAt (fun k => w'.heap.size ≤ k) w'' r l ∧ New w' w'')) :
    Calls Tryz.prog 14 #[p] w (Ret fun r w' => OwnS (Wk.one vs) 9 1 (fun b => w.heap.size ≤ b) No w' r (l.map lineM) ∧ New w w') := by
  refine calls_of_Wd Tryz.func14 rfl Tryz.ntmps14 rfl ?_
  (repeat' (first | refine Wl.assignE (by conv => { lhs; whnf }) ?_ | refine Wl.nil ?_ | refine Wd.seq ?_ | refine Qds.normal ?_ | refine Wd.region ?_))
  refine Wl.alloc fun w1 b1 n1 s1 => ?_
  replace b1 : Bk w1 w.heap.size 45 [.slice none 0 0] := b1
  (repeat' (first | refine Wl.moveE (by conv => { lhs; whnf }) ?_ | refine Wl.nil ?_ | refine Wd.seq ?_ | refine Qds.normal ?_ | refine Wd.region ?_))
  refine Wl.call (hE w1 n1) rfl ?_
  intro f w2 hh
  obtain ⟨⟨bs, sv, rfl, hbs, hb2, hr2⟩, n2⟩ := hh
  have b2 := b1.chg n2 (fun e => e)
  have hq2 : SqR (fun k => w1.heap.size ≤ k ∧ k < w2.heap.size) bs sv l w2 := ⟨hb2, hr2.mono (mono_flat _) fun k hk e => ⟨e, hk⟩⟩
  have hbl := hb2.lt
  have n02 := n1.trans n2
  have z1 := n1.size
  have z2 := n2.size
  clear hb2 hr2 b1
  let I : Nat → World → Prop := fun k W => New w W ∧ w2.heap.size ≤ W.heap.size ∧ SqR (fun k => w1.heap.size ≤ k ∧ k < w2.heap.size) bs sv l W ∧ ∃ u, Bk W w.heap.size 45 [u] ∧ OwnS (Wk.one vs) 9 1 (fun j => w2.heap.size ≤ j) No W u ((l.take k).map lineM)
  (repeat' (first | refine Wl.nil ?_ | refine Wd.block ?_ | refine Qds.normal ?_))
  refine Wd.range (gf := 71) (lb := #[pT bs]) rfl (fun args _ => run_callFunc inferInstance args) (iter_values (Pb := fun k => w1.heap.size ≤ k ∧ k < w2.heap.size) (bs := bs) (v := sv) (l := l)) I (fun _ _ => False) ?_ ?_ ?_ ?_ ?_ ?_ ?_ ?_ ?_
  · exact fun k W h => h.2.2.1
  · rintro k W W' ⟨h1, h2, h3, u, h4, h5⟩ n
    exact ⟨h1.trans n, Nat.le_trans h2 n.size, h3.new n, u, h4.chg n (fun e => e), h5.new (plain_one _) n⟩
  · rintro k W r r' ⟨h1, h2, h3, u, h4, h5⟩ hL
    exact ⟨h1.put _ (by omega), by simpa using h2, h3.put _ (.loop hL) (by omega), u, h4.put _ (.loop hL), h5.put _ (plain_one _) (.loop hL)⟩
  · exact fun _ _ _ _ h => h.elim
  · intro r
    have n := Chg.loop (w := w2) (.deferred (some [])) (.loop r)
    exact ⟨n02.trans n, n.size, hq2.new n, _, b2.chg n (fun e => e), OwnS.nil⟩
  · rintro k W r hk ⟨h1, h2, h3, u, h4, h5⟩ hL hD
    obtain ⟨y, hy⟩ := get_lt l hk
    obtain ⟨hyw, hyl⟩ := hw y (List.mem_of_getElem? hy)
    show Wr _ _ _ _ _ (upd _ 7 (evV (l.getD k ev0))) W
    rw [getD_of hy]
    (repeat' (refine Wr.region rfl (by repeat' (first | exact Qfn.out (by rintro _ ⟨⟨_, e⟩, _⟩; cases e) | exact Qrd.out | exact Qas.out | refine Qsr.out ?_ | refine Qloop.out ?_ | refine Qsc.out ?_ | refine Qblk.out ?_)) ?_))
    refine Wl.alloc fun W1 c1 m1 t1 => ?_
    refine Wl.storeB (o := 0) (new := evC y) c1 rfl rfl rfl rfl (Nat.le_refl 6) (evC_one _) fun W2 c2 m2 t2 => ?_
    replace c2 : Bk W2 W.heap.size 27 (evC y) := c2
    have m02 : New W W2 := Chg.trans m1 m2 fun _ _ e => by omega
    (repeat' (refine Wl.nil ?_))
    refine ⟨m02, fun r' => ?_⟩
    have nL : NoC W2 (w2.heap.size + 1) := .loop ((m02.block _ (Array.getElem?_eq_some_iff.1 hL).1 id).trans hL)
    have hLt := nL.lt
    have q1 : New w (W2.putObj (w2.heap.size + 1) (.loop r')) := (h1.trans m02).put _ (by omega)
    have q3 := (h3.new m02).put (.loop r') nL (by omega)
    have q4 := (h4.chg m02 (fun e => e)).put (.loop r') nL
    have q5 := (h5.new (plain_one _) m02).put (.loop r') (plain_one _) nL
    have q6 := c2.put (.loop r') nL
    have qL : NoC (W2.putObj (w2.heap.size + 1) (.loop r')) (w2.heap.size + 1) := .loop (World.putObj_heap_same hLt)
    have qD : NoC (W2.putObj (w2.heap.size + 1) (.loop r')) w2.heap.size := .mark ((World.putObj_heap_other (by omega)).trans ((m02.block _ (Array.getElem?_eq_some_iff.1 hD).1 id).trans hD))
    have hu1 : ∀ j, u.ownBlock = some j → w2.heap.size ≤ j ∧ j < W.heap.size := fun j e => h5.lt e
    generalize W2.putObj (w2.heap.size + 1) (.loop r') = W3 at *
    clear m1 m2 c1 c2 h1 h3 h4 h5
    have zW := q1.size
    have zL := qL.lt
    have z6 := q6.lt
    obtain ⟨ua, ucp, hu0, _⟩ := q5.form
    (repeat' (refine Wr.block ?_))
    refine Wr.regionT rfl (by repeat' (first | exact Qfn.out (by rintro _ ⟨⟨_, e⟩, _⟩; cases e) | exact Qrd.out | exact Qas.out | refine Qsr.out ?_ | refine Qloop.out ?_ | refine Qsc.out ?_ | refine Qblk.out ?_)) rfl (by kernel_rfl) (fun W' => Chg (fun j => u.ownBlock = some j) W3 W') (Chg.drew _ _) ?_
    intro W4 m4
    have bk4 : ∀ W', Chg (fun j => u.ownBlock = some j) W3 W' → Bk W' w.heap.size 45 [u] := fun W' c => q4.chg c fun e => by have := hu1 _ e; omega
    skip
    refine Wt.quiet rfl (Wq.load1 rfl (fun W' c => (bk4 W' c).cell (o := 0) rfl) (Wq.nil ?_))
    refine Wt.quiet rfl (Wq.loadAt (fun W' c => (q6.chg c fun e => by have := hu1 _ e; omega).at) rfl rfl (Wq.nil ?_))
    refine Wt.chain rfl (Wl.call (line_spec (ht.new (q1.trans m4)) hyw hyl) rfl ?_)
    rintro _ W5 ⟨rfl, m5⟩
    replace m5 := m4.trans m5
    refine Wl.nil ⟨rfl, m5.any, ?_⟩
    refine Wt.chain rfl (Wl.buildSlice1 (R := Wk.one vs) (Pe := No) (y := lineM y) goodS rfl rfl rfl rfl (by omega) (by omega) fun v6 W6 o6 n6 s6 e6 => ?_)
    have m6 := m5.trans n6
    refine Wl.nil ⟨rfl, m6.any, ?_⟩
    refine Wt.chain rfl (Wl.appendAll (R := Wk.one vs) goodS (q5.new (plain_one _) m6) (o6.rd goodS.mo) (fun y cs hy => hy) rfl rfl (by omega) (by simp only [maxLen, List.length_map, List.length_take, List.length_singleton]; omega) (by simp only [List.length_map, List.length_take, List.length_singleton]; omega) fun u' W7 o7 c7 lie _ => ?_)
    rw [show (l.take k).map lineM ++ [lineM y] = (l.take (k + 1)).map lineM by rw [take_snoc' hy, List.map_append]; rfl] at o7
    have c37 : Chg (fun j => u.ownBlock = some j) W3 W7 := Chg.trans m6.any c7 fun _ _ e => e
    refine Wl.nil ⟨rfl, c37, ?_⟩
    have zm6 := m6.size
    have hu' : ∀ j, u'.ownBlock = some j → j ≠ w.heap.size := by
      intro j e
      rcases lie with lie | lie
      · rw [lie] at e; have := hu1 j e; omega
      · have := lie j e; omega
    refine Wt.last rfl (Wl.store1 (bk4 W7 c37) rfl (by simp) rfl (by obtain ⟨_, _, rfl, _⟩ := o7.form; rfl) fun W8 q8 d8 => ?_)
    have z7 := c7.size
    have z8 := d8.size
    have e38 : Chg (fun j => u.ownBlock = some j ∨ j = w.heap.size) W3 W8 := Chg.trans (c37.mono fun _ _ e => .inl e) (d8.mono fun _ _ e => .inr e) fun _ _ e => e
    (repeat' (first | refine Wl.nil ?_ | refine Qblk.normal ?_))
    refine ⟨e38.block _ qL.lt ?_, e38.block _ qD.lt ?_, Chg.trans q1 e38 fun j hj e => ?_, by omega, q3.chg e38 ?_ ?_, u', q8, ?_⟩
    · rintro (e | e)
      · exact q5.nl qL e rfl
      · omega
    · rintro (e | e)
      · exact q5.nl qD e rfl
      · omega
    · rcases e with e | e
      · have := hu1 j e; omega
      · omega
    · rintro (e | e)
      · have := hu1 _ e; omega
      · omega
    · rintro j hj (e | e)
      · have := hu1 _ e; omega
      · omega
    · exact (o7.chg (plain_one _) d8 fun j e e' => hu' j e e').mono goodS.mo (fun j _ e => by rcases e with e | e <;> omega) fun _ _ e => e
  · rintro W ⟨h1, h2, h3, u, h4, h5⟩ hD
    rw [List.take_length] at h5
    (repeat' (first | refine Wd.seq ?_ | refine Qds.normal ?_ | refine Qdb.normal ?_ | refine Wd.region ?_))
    refine Wl.load1 rfl (h4.cell (o := 0) rfl) ?_
    (repeat' (first | refine Wl.assignE (by conv => { lhs; whnf }) ?_ | refine Wl.nil ?_ | refine Qds.normal ?_ | refine Wd.ret ?_))
    refine Lv.mark (by simp) hD ?_
    have nD : NoC W w2.heap.size := .mark hD
    refine Lv.ret (v := u) (results1 rfl (rvOf_tmp rfl)) ⟨_, rfl, (h5.put _ (plain_one _) nD).mono goodS.mo (fun j _ e => by omega) (fun _ _ e => e), h1.put _ (by omega)⟩
  · exact fun _ h => h.elim
  · exact fun _ _ h => h.elim
theorem TrOk.evs {t : Tr} (h : TrOk t) : ∀ e ∈ t.kept, EvW e ∧ e.pa.length ≤ 100000000 := fun e he => by
  obtain ⟨h1, _, h3⟩ := h.ok e he
  exact ⟨h1, by have := pathM_len h3; omega⟩
def linesM (t : Tr) : List (List UInt8) := t.kept.map lineM
theorem Lines_spec {Pb : Nat → Prop} {w : World} {b : Nat} {t : Tr} (ht : Tb w) (h : Rg Pb w b t) : Calls Tryz.prog 14 #[pT b] w (Ret fun r w' => OwnS (Wk.one vs) 9 1 (fun b => w.heap.size ≤ b) No w' r (linesM t) ∧ New w w') :=
  Lines_spec' ht (by have := h.ok.len; have := h.ok.s1; omega) h.ok.evs fun w' n => Each_spec (h.new n)
theorem Lines_nil {w : World} (ht : Tb w) : Calls Tryz.prog 14 #[.pointer none] w (Ret fun r w' => OwnS (Wk.one vs) 9 1 (fun b => w.heap.size ≤ b) No w' r [] ∧ New w w') :=
  Lines_spec' (l := []) ht (by simp) (fun e he => by simp at he) fun w' n => Each_nil
theorem neqL {α : Type} {a b : List α} {x y : α} {i : Nat} (ha : a[i]? = some x) (hb : b[i]? = some y) (h : x ≠ y) : a ≠ b := by
  rintro rfl
  rw [ha] at hb
  exact h (Option.some.inj hb)
theorem take_full {α : Type} {a b : List α} {i : Nat} (hl : a.length = b.length) (hi : i = a.length) (h : a.take i = b.take i) : a = b := by
  subst hi
  rw [List.take_length, hl, List.take_length] at h; exact h
theorem take_both {α : Type} {a b : List α} {x : α} {i : Nat} (h : a.take i = b.take i) (ha : a[i]? = some x) (hb : b[i]? = some x) : a.take (i + 1) = b.take (i + 1) := by
  rw [take_snoc' ha, take_snoc' hb, h]
theorem texts_spec {Pb Pc : Nat → Prop} {w : World} {u v : Value} {a b : List (List UInt8)} (h : RdS (Wk.one vs) 1 Pb w u a) (h' : RdS (Wk.one vs) 1 Pc w v b) :
    Calls Tryz.prog 21 #[u, v] w (Ret fun r w' => r = .bool (decide (a = b)) ∧ New w w') := by
  obtain ⟨p, cp, rfl, hc1, hc2⟩ := h.form
  obtain ⟨q, cq, rfl, hd1, hd2⟩ := h'.form
  simp only [maxLen] at hc2 hd2
  refine calls_of_Wc Tryz.func21 rfl Tryz.ntmps21 rfl ?_
  (repeat' (first | refine Wl.moveE (by conv => { lhs; whnf }) ?_ | refine Wl.assignE (by conv => { lhs; whnf }) ?_ | refine Wl.nil ?_ | refine Wl.lenS rfl ?_ | refine Qseq.normal ?_ | refine Wc.seq ?_ | refine Wc.region ?_ | refine Wc.block ?_ | refine Wc.skip ?_ | refine Wc.ret ?_ | refine Qseq.ret ?_ | refine Wc.condT rfl ?_ | refine Wc.condF rfl ?_ | refine Wl.neq rfl rfl (fun _ => ?_) (fun _ => ?_)))
  · refine Qfn.ret1 rfl rfl ⟨_, rfl, ?_, Chg.refl _ _⟩
    rw [decide_eq_false (fun e => by subst e; omega)]; rfl
  · have hl : a.length = b.length := by omega
    refine Wc.loop (σ := Nat) (fun i => [(0, .slice p a.length cp), (1, .slice q b.length cq), (5, vi i)]) (fun i w' => i ≤ a.length ∧ a.take i = b.take i ∧ New w w') (fun i => a.length - i) 0 ⟨rfl, rfl, rfl, trivial⟩ ⟨Nat.zero_le _, rfl, Chg.refl _ _⟩ ?_
    rintro i G w1 ⟨hi, he, n1⟩
    simp only [upds]
    have g := h.keep (stable_one _) n1.keep
    have g' := h'.keep (stable_one _) n1.keep
    (repeat' (first | refine Wl.moveE (by conv => { lhs; whnf }) ?_ | refine Wl.assignE (by conv => { lhs; whnf }) ?_ | refine Wl.nil ?_ | refine Wl.lenS rfl ?_ | refine Qseq.normal ?_ | refine Wc.seq ?_ | refine Wc.region ?_ | refine Wc.block ?_ | refine Wc.skip ?_ | refine Wc.exit ?_ | refine Wc.ret ?_ | refine Qseq.exit ?_ | refine Qblk.hit ?_ | refine Qloop.exit ?_ | refine Wc.condT rfl ?_ | refine Wc.condF rfl ?_ | refine Wl.lss rfl rfl (fun _ => ?_) (fun _ => ?_)))
    · obtain ⟨x, hx⟩ := get_lt a (k := i) (by omega)
      obtain ⟨y, hy⟩ := get_lt b (k := i) (by omega)
      refine Wc.regionN rfl (by kernel_rfl) ?_
      (repeat' (refine Wq.moveE (by conv => { lhs; whnf }) ?_))
      refine Wq.idxAddrV g (fun w' n => n.keep) rfl rfl (by omega) (by rw [Int.toNat_natCast]; exact hx) fun bb o hc => ?_
      refine Wq.load1 rfl hc ?_
      (repeat' (refine Wq.moveE (by conv => { lhs; whnf }) ?_))
      refine Wq.idxAddrV g' (fun w' n => n.keep) rfl rfl (by omega) (by rw [Int.toNat_natCast]; exact hy) fun bb' o' hc' => ?_
      refine Wq.load1 rfl hc' ?_
      (repeat' (first | refine Wq.nil ?_ | refine Wq.sneq rfl rfl (fun _ => ?_) (fun _ => ?_)))
      · intro w2 n2
        have hne : x ≠ y := by assumption
        (repeat' (first | refine Wl.assignE (by conv => { lhs; whnf }) ?_ | refine Wl.nil ?_ | refine Qseq.normal ?_ | refine Wc.seq ?_ | refine Wc.region ?_ | refine Wc.ret ?_ | refine Qseq.ret ?_ | refine Qblk.ret ?_ | refine Qloop.ret ?_ | refine Wc.condT rfl ?_))
        refine Qfn.ret1 rfl rfl ⟨_, rfl, ?_, n1.trans n2⟩
        rw [decide_eq_false (neqL hx hy hne)]; rfl
      · intro w2 n2
        have hxy : x = y := by assumption
        subst hxy
        (repeat' (first | refine Wl.moveE (by conv => { lhs; whnf }) ?_ | refine Wl.assignE (by conv => { lhs; whnf }) ?_ | refine Wl.nil ?_ | refine Qseq.normal ?_ | refine Wc.region ?_ | refine Wc.skip ?_ | refine Qblk.normal ?_ | refine Wc.condF rfl ?_ | refine Wl.add rfl rfl (by omega) (by omega) ?_))
        exact Qloop.normal (i + 1) ⟨rfl, rfl, rfl, trivial⟩ ⟨by omega, take_both he hx hy, n1.trans n2⟩ (by omega)
    · refine Qfn.ret1 rfl rfl ⟨_, rfl, ?_, n1⟩
      rw [decide_eq_true (take_full hl (by omega) he)]; rfl
end Go.Proofs.YtjaendlcijmifaaGreatDoor

namespace Go.Proofs.YtjaendlcijmifaaGreatDoor
open Go Wk
open Go.RowKit (Below)

theorem pu_snoc {M : Nat} (c : UInt8) : ∀ (l : List UInt8) (acc a : Nat), Lib.parseUintM M acc l = .ok a → Lib.parseUintM M acc (l ++ [c]) = Lib.parseUintM M a [c]
  | [], acc, a, h => by
    rw [Lib.parseUintM] at h
    cases h; rfl
  | d :: l, acc, a, h => by
    rw [Lib.parseUintM] at h
    rw [List.cons_append, Lib.parseUintM]
    split at h
    · rename_i h1
      rw [if_pos h1]
      split at h
      · cases h
      · rename_i h2
        rw [if_neg h2]
        split at h
        · cases h
        · rename_i h3
          rw [if_neg h3]
          exact pu_snoc c l _ a h
    · cases h
theorem dig_nat {k : Nat} (h : k < 10) : (UInt8.ofNat (48 + k)).toNat = 48 + k := by rw [UInt8.toNat_ofNat']; omega
theorem pu_digit {a k : Nat} (hk : k < 10) (h : a * 10 + k < 18446744073709551616) : Lib.parseUintM 18446744073709551615 a [UInt8.ofNat (48 + k)] = .ok (a * 10 + k) := by
  rw [Lib.parseUintM, dig_nat hk, if_pos (by omega), if_neg (by omega), if_neg (by omega), Lib.parseUintM]
  congr 1; omega
theorem dec_step {n : Nat} (h : ¬ n < 10) : decN n = decN (n / 10) ++ [UInt8.ofNat (48 + n % 10)] := by
  show Lib.decDigits n = Lib.decDigits (n / 10) ++ _
  rw [Lib.decDigits, dif_neg h]
theorem dec_one {n : Nat} (h : n < 10) : decN n = [UInt8.ofNat (48 + n)] := Lib.decDigits_one h
theorem pu_dec : ∀ (f n : Nat), n ≤ f → n < 18446744073709551616 → Lib.parseUintM 18446744073709551615 0 (decN n) = .ok n
  | 0, n, hf, h => by
    obtain rfl : n = 0 := by omega
    rw [dec_one (by omega)]
    exact pu_digit (a := 0) (k := 0) (by omega) (by omega)
  | f + 1, n, hf, h => by
    by_cases h10 : n < 10
    · rw [dec_one h10, pu_digit h10 (by omega)]; congr 1; omega
    · rw [dec_step h10, pu_snoc _ _ _ _ (pu_dec f (n / 10) (by omega) (by omega)), pu_digit (by omega) (by omega)]
      congr 1; omega
theorem dec_dig : ∀ (f n : Nat), n ≤ f → decN n ≠ [] ∧ ∀ b ∈ decN n, 48 ≤ b.toNat ∧ b.toNat ≤ 57
  | 0, n, hf => by
    obtain rfl : n = 0 := by omega
    rw [dec_one (by omega)]
    exact ⟨by simp, fun b hb => by rw [List.mem_singleton.1 hb, dig_nat (by omega)]; omega⟩
  | f + 1, n, hf => by
    by_cases h10 : n < 10
    · rw [dec_one h10]
      exact ⟨by simp, fun b hb => by rw [List.mem_singleton.1 hb, dig_nat h10]; omega⟩
    · rw [dec_step h10]
      refine ⟨by simp, fun b hb => ?_⟩
      rcases List.mem_append.1 hb with hb | hb
      · exact (dec_dig f (n / 10) (by omega)).2 b hb
      · rw [List.mem_singleton.1 hb, dig_nat (by omega)]; omega
theorem parseU {n : Nat} (h : n < 18446744073709551616) : Lib.parseUintB 64 (decN n) = .ok n := by
  unfold Lib.parseUintB
  rw [if_neg (dec_dig n n (Nat.le_refl _)).1]
  exact pu_dec n n (Nat.le_refl _) h
theorem decI_pos (n : Nat) : decI (n : Int) = decN n := Lib.itoa_nonneg n
theorem decI_neg {n : Nat} (h : 1 ≤ n) : decI (-(n : Int)) = 45 :: decN n := Lib.itoa_neg n h
theorem parseI {x : Int} (h0 : -9223372036854775808 ≤ x) (h1 : x ≤ 9223372036854775807) : Lib.parseIntB 64 (decI x) = .ok x := by
  rcases Int.lt_or_le x 0 with hx | hx
  · obtain ⟨n, rfl⟩ : ∃ n : Nat, x = -(n : Int) := ⟨x.natAbs, by omega⟩
    rw [decI_neg (by omega)]
    unfold Lib.parseIntB
    dsimp only
    rw [if_pos (by decide), parseU (by omega)]
    dsimp only
    rw [if_neg (by simp), if_neg (by simp; omega), if_pos (show UInt8.toNat 45 = 45 by decide)]
  · obtain ⟨n, rfl⟩ : ∃ n : Nat, x = (n : Int) := ⟨x.natAbs, by omega⟩
    rw [decI_pos]
    obtain ⟨hne, hd⟩ := dec_dig n n (Nat.le_refl _)
    have hp := parseU (n := n) (by omega)
    cases hl : decN n with
    | nil => exact absurd hl hne
    | cons c r =>
      have hc := hd c (by rw [hl]; simp)
      rw [hl] at hp
      unfold Lib.parseIntB
      dsimp only
      rw [if_neg (by omega), hp]
      dsimp only
      rw [if_neg (by simp; omega), if_neg (by simp; omega), if_neg (by omega)]
theorem decN_inj {m n : Nat} (hm : m < 18446744073709551616) (hn : n < 18446744073709551616) (h : decN m = decN n) : m = n := by
  have h1 := parseU hm
  rw [h, parseU hn] at h1
  cases h1; rfl
theorem decI_inj {x y : Int} (hx0 : -9223372036854775808 ≤ x) (hx1 : x ≤ 9223372036854775807) (hy0 : -9223372036854775808 ≤ y) (hy1 : y ≤ 9223372036854775807) (h : decI x = decI y) : x = y := by
  have h1 := parseI hx0 hx1
  rw [h, parseI hy0 hy1] at h1
  cases h1; rfl
theorem decN_32 (n : Nat) : ∀ b ∈ decN n, b ≠ 32 := fun b hb e => by
  have := (dec_dig n n (Nat.le_refl _)).2 b hb
  subst e
  simp at this
theorem decI_32 (x : Int) : ∀ b ∈ decI x, b ≠ 32 := by
  rcases Int.lt_or_le x 0 with hx | hx
  · obtain ⟨n, rfl⟩ : ∃ n : Nat, x = -(n : Int) := ⟨x.natAbs, by omega⟩
    rw [decI_neg (by omega)]
    intro b hb
    rcases List.mem_cons.1 hb with rfl | hb
    · decide
    · exact decN_32 n b hb
  · obtain ⟨n, rfl⟩ : ∃ n : Nat, x = (n : Int) := ⟨x.natAbs, by omega⟩
    rw [decI_pos]; exact decN_32 n
theorem nameK_32 (k : Nat) : ∀ b ∈ nameK k, b ≠ 32 := by
  rcases Nat.lt_or_ge k 10 with h | h
  · have : ∀ k : Fin 10, ∀ b ∈ nameK k.val, b ≠ 32 := by decide
    exact this ⟨k, h⟩
  · rw [nameK_big h]; intro b hb; simp at hb
theorem mem_splitR {c b : UInt8} : ∀ {l : List UInt8}, b ∈ l → b = c ∨ ∃ p ∈ splitR c l, b ∈ p
  | [], h => by simp at h
  | d :: l, h => by
    rw [splitR]
    by_cases hd : d = c
    · rw [if_pos hd]
      rcases List.mem_cons.1 h with rfl | h
      · exact .inl hd
      · rcases mem_splitR h with h | ⟨p, hp, hb⟩
        · exact .inl h
        · exact .inr ⟨p, List.mem_cons_of_mem _ hp, hb⟩
    · rw [if_neg hd]
      have hne := splitR_ne c l
      have ih := fun h => mem_splitR (c := c) (b := b) (l := l) h
      generalize splitR c l = q at hne ih
      cases q with
      | nil => exact absurd rfl hne
      | cons a r =>
        rcases List.mem_cons.1 h with rfl | h
        · exact .inr ⟨_, List.mem_cons_self, List.mem_cons_self⟩
        · rcases ih h with h | ⟨p, hp, hb⟩
          · exact .inl h
          · rcases List.mem_cons.1 hp with rfl | hp
            · exact .inr ⟨_, List.mem_cons_self, List.mem_cons_of_mem _ hb⟩
            · exact .inr ⟨p, List.mem_cons_of_mem _ hp, hb⟩
theorem path_32 {s : List UInt8} (h : pathM s = true) : ∀ b ∈ s, b ≠ 32 := by
  rintro b hb rfl
  unfold pathM at h
  rcases Bool.or_eq_true _ _ ▸ h with h | h
  · rw [of_decide_eq_true h] at hb; simp at hb
  · simp only [Bool.and_eq_true, Bool.not_eq_true', List.any_eq_false, decide_eq_true_eq] at h
    obtain ⟨⟨⟨h0, h1⟩, h2⟩, h3⟩ := h
    rcases mem_splitR (c := 47) hb with h | ⟨p, hp, hbp⟩
    · cases h
    · obtain ⟨k, hk⟩ := List.mem_iff_getElem?.1 hp
      cases k with
      | zero => rw [h0] at hk; cases hk; simp at hbp
      | succ k =>
        have hm : p ∈ (splitR 47 s).drop 1 := List.mem_iff_getElem?.2 ⟨k, by rw [List.getElem?_drop, Nat.add_comm]; exact hk⟩
        have := h3 p hm
        cases hn : nameOk p with
        | false => rw [hn] at this; exact absurd rfl this
        | true =>
          unfold nameOk at hn
          rw [Bool.and_eq_true] at hn
          have h4 := List.all_eq_true.1 hn.2 32 hbp
          rw [signs_eq] at h4
          revert h4; decide
/-- An event that a line may tell. -/
structure EvL (x : Ev) : Prop where
  w : EvW x
  k : nameK x.kd ≠ []
  p : pathM x.pa = true
  i0 : 0 < x.id
  i1 : x.id ≤ 4611686018427387904
  c : x.ca < x.id
def piecesM (x : Ev) : List (List UInt8) := [decN x.id, decI x.tm, nameK x.kd, x.pa, decI x.ar] ++ if x.ca = 0 then [] else [[98, 121], decN x.ca]
theorem split_line {x : Ev} (h : EvL x) : splitR 32 (lineM x) = piecesM x := by
  have e : lineM x = decN x.id ++ 32 :: (decI x.tm ++ 32 :: (nameK x.kd ++ 32 :: (x.pa ++ 32 :: (decI x.ar ++ if x.ca = 0 then [] else 32 :: ([98, 121] ++ 32 :: decN x.ca))))) := by
    unfold lineM lineH
    split <;> simp
  rw [e, splitR_at (decN_32 _), splitR_at (decI_32 _), splitR_at (nameK_32 _), splitR_at (path_32 h.p)]
  unfold piecesM
  split
  · rw [List.append_nil, splitR_free (decI_32 _)]; rfl
  · rw [splitR_at (decI_32 _), splitR_at (by decide), splitR_free (decN_32 _)]; rfl
theorem line_inj {x y : Ev} (hx : EvL x) (hy : EvL y) (h : lineM x = lineM y) : x = y := by
  have h1 := split_line hx
  rw [h, split_line hy] at h1
  unfold piecesM at h1
  have hi : y.id = x.id := decN_inj hy.w.id hx.w.id (by injection h1)
  have ht : y.tm = x.tm := decI_inj hy.w.t0 hy.w.t1 hx.w.t0 hx.w.t1 (by injection h1 with _ h1; injection h1)
  have hk : y.kd = x.kd := nameK_inj hy.k (by injection h1 with _ h1; injection h1 with _ h1; injection h1)
  have hp : y.pa = x.pa := by injection h1 with _ h1; injection h1 with _ h1; injection h1 with _ h1; injection h1
  have ha : y.ar = x.ar := decI_inj hy.w.a0 hy.w.a1 hx.w.a0 hx.w.a1 (by injection h1 with _ h1; injection h1 with _ h1; injection h1 with _ h1; injection h1 with _ h1; injection h1)
  have hc : y.ca = x.ca := by
    have h2 : (if y.ca = 0 then ([] : List (List UInt8)) else [[98, 121], decN y.ca]) = if x.ca = 0 then [] else [[98, 121], decN x.ca] := by
      injection h1 with _ h1; injection h1 with _ h1; injection h1 with _ h1; injection h1 with _ h1; injection h1
    by_cases h3 : y.ca = 0 <;> by_cases h4 : x.ca = 0
    · omega
    · rw [if_pos h3, if_neg h4] at h2; cases h2
    · rw [if_neg h3, if_pos h4] at h2; cases h2
    · rw [if_neg h3, if_neg h4] at h2
      exact decN_inj hy.w.ca hx.w.ca (by injection h2 with _ h2; injection h2)
  cases x; cases y
  simp_all
end Go.Proofs.YtjaendlcijmifaaGreatDoor

namespace Go.Proofs.YtjaendlcijmifaaGreatDoor.Wk
open Go Go.RowKit

def boundL (ops : Array Oper) (j : Nat) : List Nat := match ops[j]? with | some o => (o.after.toList.filter (Region.binds .any)).map (·.on) | none => []
def availB (ops : Array Oper) (l : List Nat) (j : Nat) : Bool := (boundL ops j).all fun k => !l.contains k
def nextQ (ops : Array Oper) (l : List Nat) : Option Nat := l.find? fun i => isQ ops i && availB ops l i
def okPairG (ops : Array Oper) (i j : Nat) : Bool := (boundL ops j).contains i || (match ops[i]?, ops[j]? with | some oi, some oj => oi.apart ops oj && oj.apart ops oi | _, _ => false)
def okG (ops : Array Oper) : Bool :=
  Region.noSelect ops && (List.range ops.size).all (fun j => (List.range j).all fun i => okPairG ops i j) && (List.range ops.size).all (fun j => (boundL ops j).all fun k => decide (k < j))
def out (j : Nat) (l : List Nat) : List Nat := l.filter fun k => k != j
section
variable {P : Program} {ops : Array Oper} {C : World → Prop} {Q : Exit → Act → World → Prop}
def TG (P : Program) (ops : Array Oper) (C : World → Prop) (Q : Exit → Act → World → Prop) : Nat → List Nat → Act → World → Prop
  | 0, _, a, w => Q .normal a w
  | f + 1, l, a, w => match nextQ ops l with
    | some q => ∃ o v, ops[q]? = some o ∧ YieldsIn P ops C o v a ∧ TG P ops C Q f (out q l) (a.put o.dst v) w
    | none => ∀ j ∈ l, availB ops l j = true → if j + 1 = ops.size then wpOp P ops Q j (fun a' w' => Q .normal a' w') a w else wpOp P ops QF j (fun a' w' => C w' ∧ TG P ops C Q f (out j l) a' w') a w
theorem out_comm (i j : Nat) (l : List Nat) : out i (out j l) = out j (out i l) := by
  unfold out; rw [List.filter_filter, List.filter_filter]; congr 1; funext k; rw [Bool.and_comm]
theorem mem_out {i j : Nat} {l : List Nat} : i ∈ out j l ↔ i ∈ l ∧ i ≠ j := by unfold out; rw [List.mem_filter]; simp
theorem avail_out {i j : Nat} {l : List Nat} (h : availB ops l i = true) : availB ops (out j l) i = true := by
  unfold availB at h ⊢
  rw [List.all_eq_true] at h ⊢
  intro k hk
  have := h k hk
  simp only [Bool.not_eq_true', Bool.eq_false_iff, ne_eq, List.contains_iff_mem] at this ⊢
  exact fun e => this (mem_out.1 e).1
theorem out_len {j : Nat} {l : List Nat} (hn : l.Nodup) (hj : j ∈ l) : (out j l).length + 1 = l.length := by
  have : out j l = l.erase j := by unfold out; rw [hn.erase_eq_filter]
  rw [this, List.length_erase_of_mem hj]
  have := List.length_pos_of_mem hj
  omega
/-- Two that may both come up now stand apart. -/
structure Ap (ops : Array Oper) (i j : Nat) (oi oj : Oper) : Prop where
  ij : oi.apart ops oj = true
  ji : oj.apart ops oi = true
  si : ∀ cs b, oi.op ≠ .select cs b
  sj : ∀ cs b, oj.op ≠ .select cs b
theorem apart_of (hok : okG ops = true) {l : List Nat} {i j : Nat} {oi oj : Oper} (hi : ops[i]? = some oi) (hj : ops[j]? = some oj) (hil : i ∈ l) (hjl : j ∈ l) (ai : availB ops l i = true) (aj : availB ops l j = true) (hne : i ≠ j) : Ap ops i j oi oj := by
  simp only [okG, Bool.and_eq_true] at hok
  obtain ⟨⟨hns, hpair⟩, _⟩ := hok
  have hsel := Region.noSelect_spec hns
  have his := (Array.getElem?_eq_some_iff.1 hi).1
  have hjs := (Array.getElem?_eq_some_iff.1 hj).1
  have key : ∀ {i j : Nat} {oi oj : Oper}, ops[i]? = some oi → ops[j]? = some oj → i ∈ l → availB ops l j = true → i < j → oi.apart ops oj = true ∧ oj.apart ops oi = true := by
    intro i j oi oj hi hj hil aj hij
    have hjs := (Array.getElem?_eq_some_iff.1 hj).1
    have h3 := List.all_eq_true.1 (List.all_eq_true.1 hpair j (List.mem_range.2 hjs)) i (List.mem_range.2 hij)
    unfold okPairG at h3
    simp only [hi, hj, Bool.or_eq_true, Bool.and_eq_true] at h3
    rcases h3 with h3 | h3
    · exfalso
      have := List.all_eq_true.1 aj i (by simpa using h3)
      rw [List.contains_iff_mem.2 hil] at this
      cases this
    · exact h3
  have sel : ∀ {i : Nat} {o : Oper}, ops[i]? = some o → ∀ cs b, o.op ≠ .select cs b := fun h cs b => hsel _ _ cs b h
  rcases Nat.lt_or_ge i j with h | h
  · have := key hi hj hil aj h; exact ⟨this.1, this.2, sel hi, sel hj⟩
  · have := key hj hi hjl ai (by omega); exact ⟨this.2, this.1, sel hi, sel hj⟩
/-- What only reads and may come up now may be taken now, or had been. -/
theorem TG_quiet (hok : okG ops = true) : ∀ (f : Nat) (q : Nat) (oq : Oper), ops[q]? = some oq → isQ ops q = true → ∀ (l : List Nat) (a : Act) (w : World), l.length = f + 1 → l.Nodup → (∀ i ∈ l, i < ops.size) → q ∈ l → availB ops l q = true →
    (TG P ops C Q (f + 1) l a w ↔ ∃ v, YieldsIn P ops C oq v a ∧ TG P ops C Q f (out q l) (a.put oq.dst v) w) := by
  intro f
  induction f with
  | zero =>
    intro q oq hq hqq l a w hl hn hlt hm ha
    obtain ⟨x, rfl⟩ : ∃ x, l = [x] := by cases l with | nil => cases hl | cons x r => cases r with | nil => exact ⟨x, rfl⟩ | cons y s => simp at hl
    obtain rfl : q = x := by simpa using hm
    have hnq : nextQ ops [q] = some q := by simp [nextQ, hqq, ha]
    rw [TG, hnq]
    simp only [hq, Option.some.injEq]
    exact ⟨fun ⟨o, v, e, h⟩ => by cases e; exact ⟨v, h⟩, fun ⟨v, h⟩ => ⟨oq, v, rfl, h⟩⟩
  | succ f ih =>
    intro q oq hq hqq l a w hl hn hlt hm ha
    rw [TG]
    cases hnq : nextQ ops l with
    | none =>
      exfalso
      have := List.find?_eq_none.1 hnq q hm
      simp [hqq, ha] at this
    | some r =>
      have hr := List.find?_some hnq
      have hrm := List.mem_of_find?_eq_some hnq
      simp only [Bool.and_eq_true] at hr
      dsimp only
      by_cases hrq : r = q
      · subst hrq
        simp only [hq, Option.some.injEq]
        exact ⟨fun ⟨o, v, e, h⟩ => by cases e; exact ⟨v, h⟩, fun ⟨v, h⟩ => ⟨oq, v, rfl, h⟩⟩
      · obtain ⟨or', hor⟩ : ∃ o, ops[r]? = some o := ⟨ops[r]'(hlt r hrm), Array.getElem?_eq_getElem (hlt r hrm)⟩
        have ap := apart_of hok hor hq hrm hm hr.2 ha hrq
        have hne := (Oper.apart_spec ap.ij).2.1
        have lr := out_len hn hrm
        have lq := out_len hn hm
        have nr : (out r l).Nodup := hn.filter _
        have nq : (out q l).Nodup := hn.filter _
        have e1 := fun a' => ih q oq hq hqq (out r l) a' w (by omega) nr (fun i hi => hlt i (mem_out.1 hi).1) (mem_out.2 ⟨hm, fun e => hrq e.symm⟩) (avail_out ha)
        have e2 := fun a' => ih r or' hor hr.1 (out q l) a' w (by omega) nq (fun i hi => hlt i (mem_out.1 hi).1) (mem_out.2 ⟨hrm, hrq⟩) (avail_out hr.2)
        constructor
        · rintro ⟨o, vr, eo, hy, ht⟩
          rw [hor] at eo
          cases eo
          obtain ⟨vq, hyq, ht2⟩ := (e1 _).1 ht
          refine ⟨vq, (yields_unput ap.ij ap.sj).1 hyq, (e2 _).2 ⟨vr, (yields_unput ap.ji ap.si).2 hy, ?_⟩⟩
          rw [out_comm, ← Act.put_comm a vr vq hne]
          exact ht2
        · rintro ⟨vq, hyq, ht⟩
          obtain ⟨vr, hyr, ht2⟩ := (e2 _).1 ht
          refine ⟨or', vr, hor, (yields_unput ap.ji ap.si).1 hyr, (e1 _).2 ⟨vq, (yields_unput ap.ij ap.sj).2 hyq, ?_⟩⟩
          rw [out_comm, Act.put_comm a vr vq hne]
          exact ht2
/-- Another operation that may come up now may be taken first. -/
theorem TG_chain (hok : okG ops = true) {j : Nat} {oj : Oper} (hj : ops[j]? = some oj) (hjq : isQ ops j = false) (hjl : j + 1 ≠ ops.size) : ∀ (f : Nat) (l : List Nat) (a : Act) (w : World), l.length = f + 1 → l.Nodup → (∀ i ∈ l, i < ops.size) → j ∈ l → availB ops l j = true →
    TG P ops C Q (f + 1) l a w → wpOp P ops QF j (fun a' w' => C w' ∧ TG P ops C Q f (out j l) a' w') a w := by
  intro f
  induction f with
  | zero =>
    intro l a w hl hn hlt hm ha h
    obtain ⟨x, rfl⟩ : ∃ x, l = [x] := by cases l with | nil => cases hl | cons x r => cases r with | nil => exact ⟨x, rfl⟩ | cons y s => simp at hl
    obtain rfl : j = x := by simpa using hm
    have hnq : nextQ ops [j] = none := by simp [nextQ, hjq]
    rw [TG, hnq] at h
    have := h j (by simp) ha
    rwa [if_neg hjl] at this
  | succ f ih =>
    intro l a w hl hn hlt hm ha h
    have h0 := h
    rw [TG] at h
    cases hnq : nextQ ops l with
    | none =>
      rw [hnq] at h
      have := h j hm ha
      rwa [if_neg hjl] at this
    | some r =>
      have hr := List.find?_some hnq
      have hrm := List.mem_of_find?_eq_some hnq
      simp only [Bool.and_eq_true] at hr
      obtain ⟨or', hor⟩ : ∃ o, ops[r]? = some o := ⟨ops[r]'(hlt r hrm), Array.getElem?_eq_getElem (hlt r hrm)⟩
      have hrj : r ≠ j := fun e => by rw [e, hjq] at hr; cases hr.1
      have ap := apart_of hok hor hj hrm hm hr.2 ha hrj
      have lr := out_len hn hrm
      have lj := out_len hn hm
      have nr : (out r l).Nodup := hn.filter _
      have nj : (out j l).Nodup := hn.filter _
      obtain ⟨v, hy, ht⟩ := (TG_quiet hok (f + 1) r or' hor hr.1 l a w hl hn hlt hrm hr.2).1 h0
      have hw := ih (out r l) _ w (by omega) nr (fun i hi => hlt i (mem_out.1 hi).1) (mem_out.2 ⟨hm, fun e => hrj e.symm⟩) (avail_out ha) ht
      refine wpOp_mono (fun a' w' h' => ?_) (wpOp_put hj ap.ij ap.si ap.sj hy hw)
      obtain ⟨hy', hC', ht'⟩ := h'
      refine ⟨hC', (TG_quiet hok f r or' hor hr.1 (out j l) a' w' (by omega) nj (fun i hi => hlt i (mem_out.1 hi).1) (mem_out.2 ⟨hrm, hrj⟩) (avail_out hr.2)).2 ⟨v, hy', ?_⟩⟩
      rw [out_comm]; exact ht'
def okGL (ops : Array Oper) : Bool := okG ops && (isQ ops (ops.size - 1) || (List.range ops.size).all fun k => (ahead ops ops.size [ops.size - 1]).contains k)
theorem wpAny_of_TG (hok2 : okGL ops = true) : ∀ (fuel : Nat) (listed : Array Bool) (a : Act) (w : World), listed.size = ops.size → (left ops listed).length = fuel → Clos ops listed → (fuel ≠ 0 → C w) → TG P ops C Q fuel (left ops listed) a w → wpAny P .any ops Q fuel listed a w := by
  have hok : okG ops = true := by unfold okGL at hok2; simp only [Bool.and_eq_true] at hok2; exact hok2.1
  have hlast : (isQ ops (ops.size - 1) || (List.range ops.size).all fun k => (ahead ops ops.size [ops.size - 1]).contains k) = true := by unfold okGL at hok2; simp only [Bool.and_eq_true] at hok2; exact hok2.2
  have hdown : ∀ (j : Nat) (o : Oper), ops[j]? = some o → ∀ e ∈ o.after, Region.binds .any e = true → e.on < j := by
    intro j o ho e he hb
    have := hok
    simp only [okG, Bool.and_eq_true] at this
    have h3 := List.all_eq_true.1 this.2 j (List.mem_range.2 (Array.getElem?_eq_some_iff.1 ho).1)
    have hm : e.on ∈ boundL ops j := by
      unfold boundL; rw [ho]
      exact List.mem_map.2 ⟨e, List.mem_filter.2 ⟨by simpa using he, hb⟩, rfl⟩
    exact of_decide_eq_true (List.all_eq_true.1 h3 _ hm)
  have rdy : ∀ listed : Array Bool, listed.size = ops.size → ∀ i, i ∈ Region.ready .any ops listed → i ∈ left ops listed ∧ availB ops (left ops listed) i = true := by
    intro listed hs i hi
    obtain ⟨h0, o, ho, hall⟩ := mem_ready.1 hi
    refine ⟨?_, ?_⟩
    · unfold left
      rw [List.mem_filter, List.mem_range]
      exact ⟨(Array.getElem?_eq_some_iff.1 ho).1, by simp [h0]⟩
    · unfold availB boundL
      rw [ho, List.all_eq_true]
      intro k hk
      obtain ⟨e, he, rfl⟩ := List.mem_map.1 hk
      rw [List.mem_filter] at he
      have h1 := hall e (by simpa using he.1) he.2
      simp only [Bool.not_eq_true', Bool.eq_false_iff, ne_eq, List.contains_iff_mem]
      intro hm
      unfold left at hm
      rw [List.mem_filter, List.mem_range] at hm
      have hlt : e.on < listed.size := by rw [hs]; exact hm.1
      have h2 := hm.2
      simp [Array.getD_eq_getD_getElem?, Array.getElem?_eq_getElem hlt] at h1 h2
      rw [h1] at h2; cases h2
  intro fuel
  induction fuel with
  | zero =>
    intro listed a w hs hl hcl hC h
    have hnil : left ops listed = [] := List.eq_nil_of_length_eq_zero hl
    refine ⟨?_, h⟩
    rw [List.eq_nil_iff_forall_not_mem]
    intro i hi
    have := (rdy listed hs i hi).1
    rw [hnil] at this
    cases this
  | succ fuel ih =>
    intro listed a w hs hl hcl hC h
    replace hC := hC (by simp)
    have hnd : (left ops listed).Nodup := List.Nodup.sublist List.filter_sublist List.nodup_range
    have hunl : ∀ i ∈ left ops listed, i < ops.size ∧ listed.getD i true = false := fun i hi => by
      unfold left at hi
      rw [List.mem_filter, List.mem_range] at hi
      exact ⟨hi.1, by simpa using hi.2⟩
    refine ⟨fun h0 => ?_, fun j hj => ?_⟩
    · exfalso
      cases hL : left ops listed with
      | nil => rw [hL] at hl; cases hl
      | cons i l =>
        have hmem : i ∈ left ops listed := by rw [hL]; simp
        obtain ⟨his, hun⟩ := hunl i hmem
        have hall : ∀ k, k < i → listed.getD k false = true := by
          intro k hk
          have hks : k < ops.size := by omega
          cases hb : listed.getD k true with
          | true => simpa [Array.getD_eq_getD_getElem?, hs, hks] using hb
          | false =>
            have hkm : k ∈ left ops listed := by unfold left; rw [List.mem_filter, List.mem_range]; exact ⟨hks, by simp [hb]⟩
            have hsort : (left ops listed).Pairwise (· < ·) := List.Pairwise.sublist List.filter_sublist List.pairwise_lt_range
            rw [hL] at hkm hsort
            rcases List.mem_cons.1 hkm with e | e
            · omega
            · have := (List.pairwise_cons.1 hsort).1 k e; omega
        have : i ∈ Region.ready .any ops listed := mem_ready.2 ⟨hun, ops[i], Array.getElem?_eq_getElem his, fun e he hb => hall e.on (hdown i _ (Array.getElem?_eq_getElem his) e he hb)⟩
        rw [h0] at this
        cases this
    · obtain ⟨hjm, hja⟩ := rdy listed hs j hj
      have hjs := (hunl j hjm).1
      have hoj : ops[j]? = some ops[j] := Array.getElem?_eq_getElem hjs
      have hset : left ops (listed.setIfInBounds j true) = out j (left ops listed) := left_set hs hjs
      have hlen := out_len hnd hjm
      have hcl' := hcl.set hj
      have hlen' : (left ops (listed.setIfInBounds j true)).length = fuel := by rw [hset]; omega
      cases hjq : isQ ops j with
      | true =>
        obtain ⟨v, hy, ht⟩ := (TG_quiet hok fuel j _ hoj hjq (left ops listed) a w hl hnd (fun i hi => (hunl i hi).1) hjm hja).1 h
        have hrj : readB ops[j].op = true := by unfold isQ at hjq; rw [hoj] at hjq; exact hjq
        exact YieldsS.wpOp hoj hy hrj hC (ih _ _ w (by simpa using hs) hlen' hcl' (fun _ => hC) (by rw [hset]; exact ht))
      | false =>
        by_cases hjl : j + 1 = ops.size
        · have hj1 : ops.size - 1 = j := by omega
          rw [hj1, hjq, Bool.false_or] at hlast
          have hbehind : ∀ k, k ∈ ahead ops ops.size [j] → k = j ∨ listed.getD k false = true := ahead_spec hcl hj _ _ (by simp)
          have all : ∀ i ∈ left ops listed, i = j := fun i hi => by
            obtain ⟨his, hun⟩ := hunl i hi
            rcases hbehind i (by simpa using List.all_eq_true.1 hlast i (List.mem_range.2 his)) with e | e
            · exact e
            · simp [Array.getD_eq_getD_getElem?, hs, his] at hun e
              rw [hun] at e; cases e
          have hL : left ops listed = [j] := by
            cases hh : left ops listed with
            | nil => rw [hh] at hl; cases hl
            | cons x r =>
              rw [hh] at all hnd
              obtain rfl := all x (by simp)
              cases r with
              | nil => rfl
              | cons y s =>
                have := all y (by simp)
                subst this
                exact absurd (by simp) (List.nodup_cons.1 hnd).1
          have hf : fuel = 0 := by rw [hL] at hl; simpa using hl.symm
          subst hf
          rw [hL] at h hja
          have hnq : nextQ ops [j] = none := by simp [nextQ, hjq]
          rw [TG, hnq] at h
          have hw := h j (by simp) hja
          rw [if_pos hjl] at hw
          exact wpOp_mono (fun a' w' h' => ih _ a' w' (by simpa using hs) hlen' hcl' (fun hne => absurd rfl hne) h') hw
        · exact wpOp_of_QF (fun a' w' h' => ih _ a' w' (by simpa using hs) hlen' hcl' (fun _ => h'.1) (by rw [hset]; exact h'.2)) (TG_chain hok hoj hjq hjl fuel (left ops listed) a w hl hnd (fun i hi => (hunl i hi).1) hjm hja h)
end
section
variable {P : Program} {n : Nat} {ds : List Deferred} {Q : Po} {F : Fr} {ops : List Oper} {C : World → Prop} {w : World}
/-- The walk that parts: by frames. -/
def Wg (P : Program) (n : Nat) (ds : List Deferred) (C : World → Prop) (Q : Po) (ops : List Oper) : Nat → List Nat → Fr → World → Prop
  | 0, _, F, w => Q .normal F w
  | f + 1, l, F, w => match nextQ ops.toArray l with
    | some q => ∃ o, ops[q]? = some o ∧ Wq P n ds C (fun F' => Wg P n ds C Q ops f (out q l) F' w) ops [o] F
    | none => ∀ j ∈ l, availB ops.toArray l j = true → ∃ o, ops[j]? = some o ∧ (if j + 1 = ops.length then Wl P n ds Q ops [o] F w else Wl P n ds (fun e F' w' => e = .normal ∧ C w' ∧ Wg P n ds C Q ops f (out j l) F' w') ops [o] F w)
theorem Wg.nil {l : List Nat} (h : Q .normal F w) : Wg P n ds C Q ops 0 l F w := h
theorem Wg.quiet {f q : Nat} {l l' : List Nat} {o : Oper} (h : nextQ ops.toArray l = some q) (ho : ops[q]? = some o) (hl : out q l = l') (k : Wq P n ds C (fun F' => Wg P n ds C Q ops f l' F' w) ops [o] F) : Wg P n ds C Q ops (f + 1) l F w := by
  subst hl
  rw [Wg, h]
  exact ⟨o, ho, k⟩
theorem Wg.one {f j : Nat} {l l' : List Nat} {o : Oper} (h : nextQ ops.toArray l = none) (hr : l.filter (availB ops.toArray l) = [j]) (ho : ops[j]? = some o) (hjl : Nat.beq (j + 1) ops.length = false) (hl : out j l = l')
    (k : Wl P n ds (fun e F' w' => e = .normal ∧ C w' ∧ Wg P n ds C Q ops f l' F' w') ops [o] F w) : Wg P n ds C Q ops (f + 1) l F w := by
  subst hl
  rw [Wg, h]
  intro i hi ha
  have hm : i ∈ l.filter (availB ops.toArray l) := List.mem_filter.2 ⟨hi, ha⟩
  rw [hr] at hm
  obtain rfl : i = j := by simpa using hm
  exact ⟨o, ho, by rw [if_neg (Nat.ne_of_beq_eq_false hjl)]; exact k⟩
theorem Wg.two {f j1 j2 : Nat} {l l1 l2 : List Nat} {o1 o2 : Oper} (h : nextQ ops.toArray l = none) (hr : l.filter (availB ops.toArray l) = [j1, j2]) (ho1 : ops[j1]? = some o1) (ho2 : ops[j2]? = some o2)
    (hjl1 : Nat.beq (j1 + 1) ops.length = false) (hjl2 : Nat.beq (j2 + 1) ops.length = false) (hl1 : out j1 l = l1) (hl2 : out j2 l = l2)
    (k1 : Wl P n ds (fun e F' w' => e = .normal ∧ C w' ∧ Wg P n ds C Q ops f l1 F' w') ops [o1] F w) (k2 : Wl P n ds (fun e F' w' => e = .normal ∧ C w' ∧ Wg P n ds C Q ops f l2 F' w') ops [o2] F w) : Wg P n ds C Q ops (f + 1) l F w := by
  subst hl1
  subst hl2
  rw [Wg, h]
  intro i hi ha
  have hm : i ∈ l.filter (availB ops.toArray l) := List.mem_filter.2 ⟨hi, ha⟩
  rw [hr] at hm
  have : i = j1 ∨ i = j2 := by simpa using hm
  rcases this with rfl | rfl
  · exact ⟨o1, ho1, by rw [if_neg (Nat.ne_of_beq_eq_false hjl1)]; exact k1⟩
  · exact ⟨o2, ho2, by rw [if_neg (Nat.ne_of_beq_eq_false hjl2)]; exact k2⟩
theorem Wg.last {f j : Nat} {l : List Nat} {o : Oper} (h : nextQ ops.toArray l = none) (hr : l = [j]) (ho : ops[j]? = some o) (hjl : j + 1 = ops.length) (k : Wl P n ds Q ops [o] F w) : Wg P n ds C Q ops (f + 1) l F w := by
  rw [Wg, h]
  subst hr
  intro i hi ha
  obtain rfl : i = j := by simpa using hi
  exact ⟨o, ho, by rw [if_pos hjl]; exact k⟩
theorem TG_of_Wg : ∀ (f : Nat) (l : List Nat) (F : Fr) (w : World), Wg P n ds C Q ops f l F w → TG P ops.toArray C (QA n ds Q) f l (act n ds F) w
  | 0, l, F, w, h => ⟨F, rfl, h⟩
  | f + 1, l, F, w, h => by
    rw [TG]
    rw [Wg] at h
    cases hq : nextQ ops.toArray l with
    | some q =>
      rw [hq] at h
      obtain ⟨o, ho, h⟩ := h
      have ho' : ops.toArray[q]? = some o := by simpa using ho
      unfold Wq at h
      have hst : qOp P ops.toArray C q (fun a => ∃ F', a = act n ds F' ∧ Wg P n ds C Q ops f (out q l) F' w) (act n ds F) := by unfold qOp; simp only [ho']; exact h
      obtain ⟨v, hy, F', hF, hw⟩ := yieldsIn_of_qOp ho' hst
      refine ⟨o, v, ho', hy, ?_⟩
      rw [hF]
      exact TG_of_Wg f (out q l) F' w hw
    | none =>
      rw [hq] at h
      intro j hj ha
      obtain ⟨o, ho, h⟩ := h j hj ha
      have hsz : ops.toArray.size = ops.length := by simp
      rw [hsz]
      split
      · rename_i he
        rw [if_pos he] at h
        exact wpOp_of_Wl ho h
      · rename_i he
        rw [if_neg he] at h
        refine wpOp_noQ ?_ ?_ (wpOp_of_Wl ho h)
        · rintro e a' w' hne ⟨F', _, h', _⟩; exact hne h'
        · rintro a' w' ⟨F', rfl, _, hC, h'⟩
          exact ⟨hC, TG_of_Wg f (out j l) F' w' h'⟩
/-- A region that draws its order, by a walk that parts. -/
theorem Wc.regionG {rid m : Nat} (hm : P.follows .mixedOrders = true) (hB : okGL ops.toArray = true) (C : World → Prop) (hC : C w.drew) (hlen : ops.length = m) (h : ∀ w', New w w' → Wg P n ds C Q ops m (List.range m) F w') : Wc P n ds Q (.region rid ops.toArray true) F w := by
  subst hlen
  unfold Wc
  refine wp_region_any hm ?_
  have hleft : left ops.toArray (Array.replicate ops.toArray.size false) = List.range ops.length := by
    unfold left
    simp only [List.size_toArray]
    refine List.filter_eq_self.2 fun k hk => ?_
    have := List.mem_range.1 hk
    simp [Array.getD_eq_getD_getElem?, Array.getElem?_replicate, this]
  have h0 : Clos ops.toArray (Array.replicate ops.toArray.size false) := by
    intro j o hj
    exfalso
    simp only [Array.getD_eq_getD_getElem?, Array.getElem?_replicate] at hj
    split at hj <;> simp at hj
  refine wpAny_of_TG (C := C) hB _ _ _ _ (by simp) (by rw [hleft]; simp) h0 (fun _ => hC) ?_
  rw [hleft]
  have := TG_of_Wg ops.length (List.range ops.length) F w.drew (h _ (Chg.drew _ _))
  simpa using this
end
attribute [irreducible] Wg
end Go.Proofs.YtjaendlcijmifaaGreatDoor.Wk

namespace Go.Proofs.YtjaendlcijmifaaGreatDoor
open Go Wk
open Go.RowKit (Below)
attribute [local irreducible] Go.Calls

section
variable {P : Program} {n : Nat} {ds : List Deferred} {Q : Po} {F : Fr} {w : World} {ops : List Oper} {C : World → Prop}
theorem Wk.Wg.qh {f q : Nat} {r : List Nat} {o : Oper} (h : nextQ ops.toArray (q :: r) = some q) (ho : ops[q]? = some o) (hl : out q (q :: r) = r) (k : Wq P n ds C (fun F' => Wg P n ds C Q ops f r F' w) ops [o] F) : Wg P n ds C Q ops (f + 1) (q :: r) F w :=
  Wg.quiet h ho hl k
theorem Wk.Wg.oneH {f j : Nat} {r : List Nat} {o : Oper} (h : nextQ ops.toArray (j :: r) = none) (hr : (j :: r).filter (availB ops.toArray (j :: r)) = [j]) (ho : ops[j]? = some o) (hjl : Nat.beq (j + 1) ops.length = false) (hl : out j (j :: r) = r)
    (k : Wl P n ds (fun e F' w' => e = .normal ∧ C w' ∧ Wg P n ds C Q ops f r F' w') ops [o] F w) : Wg P n ds C Q ops (f + 1) (j :: r) F w := Wg.one h hr ho hjl hl k
end
theorem Wk.Wc.cutW {P : Program} {n : Nat} {ds : List Deferred} {Q : Po} {F : Fr} {w : World} {a b : Code} (l : List (Nat × Value)) (M : World → Prop) (h1 : Wc P n ds (fun e F w => e = .normal ∧ agrees F l ∧ M w) a F w) (h2 : ∀ G w, M w → Wc P n ds Q b (upds G l) w) : Wc P n ds Q (.seq a b) F w := by
  refine Wc.seq ?_
  unfold Wc at h1 ⊢
  refine wp_mono h1 ?_
  rintro e a' w' ⟨F', rfl, rfl, hF, hM⟩
  refine ⟨F', rfl, ?_⟩
  unfold Qseq
  have := h2 F' w' hM
  rw [upds_of_agrees hF] at this
  exact this
/-- The errors' variables hold what their initialisers lay. -/
def ErrV (w : World) : Prop := ∀ g, g = 1 ∨ g = 2 → g < w.heap.size ∧ ∃ te pe, w.cell? ⟨g, 0, none⟩ = some (.iface te pe)
theorem ErrV.new {w w' : World} (h : ErrV w) (n : New w w') : ErrV w' := fun g hg => by
  obtain ⟨h1, te, pe, h2⟩ := h g hg
  refine ⟨Nat.lt_of_lt_of_le h1 n.size, te, pe, ?_⟩
  have := n.block g h1 id
  simp only [World.cell?] at h2 ⊢
  rw [this]; exact h2
theorem new_bytes {w : World} {e : TypeId} {s : ByteArray} : New w (Lib.bytesWorld w e s) :=
  ⟨rfl, rfl, rfl, by rw [Lib.bytesWorld_size]; omega, fun k hk _ => Lib.bytesWorld_at_old w e _ k hk⟩
theorem ParseUint_spec {w : World} {s : List UInt8} (hE : ErrV w) (hl : s.length ≤ 100000000) :
    Calls Tryz.prog 44 #[vs s, vi 10, vi 64] w (Ret fun r w' => (∃ (n : Nat) (e : Value), r = .tuple #[.int .u64 n, e] ∧ n < 18446744073709551616 ∧ ∀ m, m < 18446744073709551616 → s = decN m → n = m) ∧ New w w') := by
  have hs : (⟨s.toArray⟩ : ByteArray).size = s.length := by simp [ByteArray.size]
  obtain ⟨_, te, pe, h0⟩ := hE _ (.inl rfl)
  obtain ⟨_, te1, pe1, h1⟩ := hE _ (.inr rfl)
  cases hp : Lib.parseUintB 64 s with
  | ok u =>
    refine (Tryz.strconv_ParseUint_10_at64_ok ⟨s.toArray⟩ (by rw [hs]; omega) u hp w).mono ?_
    rintro e w' ⟨rfl, hw⟩
    refine ⟨_, rfl, ⟨u, _, rfl, ?_, fun m hm e => ?_⟩, ?_⟩
    · have := Lib.parseUintB_le hp; omega
    · rw [e, parseU hm] at hp; cases hp; rfl
    · rcases hw with rfl | rfl
      · exact Chg.refl _ _
      · exact new_bytes
  | «syntax» =>
    refine (Tryz.strconv_ParseUint_10_at64_syntax ⟨s.toArray⟩ (by rw [hs]; omega) hp _ w h0 (.inr ⟨_, _, rfl⟩)).mono ?_
    rintro e w' ⟨N, rfl, _, _, hb⟩
    exact ⟨_, rfl, ⟨0, _, rfl, by omega, fun m hm e => by rw [e, parseU hm] at hp; cases hp⟩, New.ofBelow hb⟩
  | range =>
    refine (Tryz.strconv_ParseUint_10_at64_range ⟨s.toArray⟩ (by rw [hs]; omega) hp _ w h1 (.inr ⟨_, _, rfl⟩)).mono ?_
    rintro e w' ⟨N, rfl, _, _, hb⟩
    exact ⟨_, rfl, ⟨18446744073709551615, _, rfl, by omega, fun m hm e => by rw [e, parseU hm] at hp; cases hp⟩, New.ofBelow hb⟩
theorem ParseInt_spec {w : World} {s : List UInt8} (hE : ErrV w) (hl : s.length ≤ 100000000) :
    Calls Tryz.prog 45 #[vs s, vi 10, vi 64] w (Ret fun r w' => (∃ (n : Int) (e : Value), r = .tuple #[vi n, e] ∧ -9223372036854775808 ≤ n ∧ n ≤ 9223372036854775807 ∧ ∀ m, -9223372036854775808 ≤ m → m ≤ 9223372036854775807 → s = decI m → n = m) ∧ New w w') := by
  have hs : (⟨s.toArray⟩ : ByteArray).size = s.length := by simp [ByteArray.size]
  obtain ⟨_, te, pe, h0⟩ := hE _ (.inl rfl)
  obtain ⟨_, te1, pe1, h1⟩ := hE _ (.inr rfl)
  cases hp : Lib.parseIntB 64 s with
  | ok u =>
    refine (Tryz.strconv_ParseInt_10_at64_ok ⟨s.toArray⟩ (by rw [hs]; omega) u hp w).mono ?_
    rintro e w' ⟨rfl, hw⟩
    have hb := Lib.parseIntB_bounds hp
    refine ⟨_, rfl, ⟨u, _, rfl, by simp at hb; omega, by simp at hb; omega, fun m hm hm' e => ?_⟩, ?_⟩
    · rw [e, parseI hm hm'] at hp; cases hp; rfl
    · rcases hw with rfl | ⟨t, rfl⟩
      · exact Chg.refl _ _
      · exact new_bytes
  | «syntax» =>
    refine (Tryz.strconv_ParseInt_10_at64_syntax ⟨s.toArray⟩ (by rw [hs]; omega) hp _ w h0 (.inr ⟨_, _, rfl⟩)).mono ?_
    rintro e w' ⟨N, rfl, _, _, hb⟩
    exact ⟨_, rfl, ⟨0, _, rfl, by omega, by omega, fun m hm hm' e => by rw [e, parseI hm hm'] at hp; cases hp⟩, New.ofBelow hb⟩
  | range =>
    refine (Tryz.strconv_ParseInt_10_at64_range ⟨s.toArray⟩ (by rw [hs]; omega) hp _ w h1 (.inr ⟨_, _, rfl⟩)).mono ?_
    rintro e w' ⟨N, rfl, _, _, hb⟩
    refine ⟨_, rfl, ⟨Lib.intSat 64 s, _, rfl, ?_, ?_, fun m hm hm' e => by rw [e, parseI hm hm'] at hp; cases hp⟩, New.ofBelow hb⟩
    · unfold Lib.intSat; split <;> simp
    · unfold Lib.intSat; split <;> simp
theorem sum_ge' {l : List Nat} {x : Nat} (h : x ∈ l) : x ≤ l.sum := by
  induction l with
  | nil => simp at h
  | cons y r ih =>
    simp only [List.sum_cons]
    rcases List.mem_cons.1 h with rfl | h
    · omega
    · have := ih h; omega
/-- The number of a kind's name; 0: there is none. -/
def kindOf (s : List UInt8) : Nat → Nat
  | 0 => 0
  | k + 1 => if nameK (k + 1) = s then k + 1 else kindOf s k
theorem kindOf_le (s : List UInt8) : ∀ n, kindOf s n ≤ n
  | 0 => Nat.le_refl _
  | k + 1 => by unfold kindOf; split; exact Nat.le_refl _; exact Nat.le_succ_of_le (kindOf_le s k)
theorem kindOf_name {s : List UInt8} : ∀ {n : Nat}, kindOf s n ≠ 0 → nameK (kindOf s n) = s
  | 0, h => absurd rfl h
  | k + 1, h => by
    unfold kindOf at h ⊢
    split
    · rename_i e; exact e
    · rename_i e; rw [if_neg e] at h; exact kindOf_name h
theorem kindOf_of {s : List UInt8} {j : Nat} (hj : nameK j = s) (hne : s ≠ []) : ∀ {n : Nat}, j ≤ n → kindOf s n = j
  | 0, h => by
    have : j = 0 := by omega
    subst this
    exact absurd hj.symm hne
  | k + 1, h => by
    unfold kindOf
    split
    · rename_i e
      exact (nameK_inj (j := k + 1) (k := j) (by rw [e]; exact hne) (e.trans hj.symm))
    · rename_i e
      exact kindOf_of hj hne (by
        rcases Nat.lt_or_ge j (k + 1) with h1 | h1
        · omega
        · exact absurd (by rw [show k + 1 = j by omega]; exact hj) e)
set_option maxRecDepth 4000 in
set_option maxHeartbeats 4000000 in
theorem event_spec {w : World} {s : List UInt8} (ht : Tb w) (hE : ErrV w) (hl : s.length ≤ 10000000) :
    Calls Tryz.prog 29 #[vs s] w (Ret fun r w' => (∃ (y : Ev) (q : Bool), r = .tuple #[evV y, .bool q] ∧ (q = true → EvL y ∧ lineM y = s) ∧ (q = false → ∀ x, EvL x → lineM x ≠ s)) ∧ New w w') := by
  have hcount := splitR_length 32 s
  have hcl : s.count 32 ≤ s.length := List.count_le_length
  refine calls_of_Wc Tryz.func29 rfl Tryz.ntmps29 rfl ?_
  (repeat' (first | refine Wc.seq ?_ | refine Wc.region ?_))
  refine Wl.alloc fun w1 b1 n1 s1 => ?_
  replace b1 : Bk w1 w.heap.size 27 (evC ev0) := b1
  (repeat' (first | refine Wl.moveE (by conv => { lhs; whnf }) ?_ | refine Wl.assignE (by conv => { lhs; whnf }) ?_ | refine Wl.nil ?_ | refine Qseq.normal ?_ | refine Wc.seq ?_ | refine Wc.region ?_))
  refine Wl.call (SplitC_spec 32 (l := s) (by omega)) rfl ?_
  rintro v w2 ⟨ov, n2⟩
  have rv := (ov.rd goodS.mo).mono (Pb' := fun k => k < w2.heap.size) (mono_one _) fun k hk _ => hk
  obtain ⟨a, cp, rfl, hc1, hc2⟩ := rv.form
  simp only [maxLen] at hc2
  have b2 := b1.chg n2 (fun e => e)
  have n02 := n1.trans n2
  have z1 := n1.size
  clear n1 n2 b1 ov
  have hsum := splitR_sum 32 s
  have hsl : ∀ x, EvL x → lineM x = s → splitR 32 s = piecesM x := fun x hx e => by rw [← e]; exact split_line hx
  have hpl : ∀ (i : Nat) (y : List UInt8), (splitR 32 s)[i]? = some y → y.length ≤ s.length := fun i y hy => by
    have h1 := sum_ge' (List.mem_map.2 ⟨y, List.mem_of_getElem? hy, rfl⟩ : y.length + 1 ∈ (splitR 32 s).map fun x => x.length + 1)
    omega
  have hbad : (splitR 32 s).length ≠ 5 → (splitR 32 s).length ≠ 7 → ∀ x, EvL x → lineM x ≠ s := fun h5 h7 x hx e => by
    have h1 := congrArg List.length (hsl x hx e)
    unfold piecesM at h1
    split at h1 <;> simp at h1 <;> omega
  clear hsum hcount hcl
  generalize splitR 32 s = ps at *
  by_cases hlen : ps.length = 5 ∨ ps.length = 7
  rotate_left
  · have hq := hbad (fun e => hlen (.inl e)) (fun e => hlen (.inr e))
    (repeat' (first | refine Wl.moveE (by conv => { lhs; whnf }) ?_ | refine Wl.assignE (by conv => { lhs; whnf }) ?_ | refine Wl.nil ?_ | refine Wl.guardY rfl rfl ?_ | refine Wl.pickTE rfl (by conv => { lhs; whnf }) ?_ | refine Wl.lenS rfl ?_ | refine Qseq.normal ?_ | refine Wc.seq ?_ | refine Wc.region ?_ | refine Wc.condT rfl ?_ | (refine Wl.neq rfl rfl (fun _ => ?_) (fun _ => ?_) <;> (first | (exfalso; omega) | skip))))
    refine Wl.buildG (u := evV ev0) rfl (by kernel_rfl) ?_
    skip
    refine Wl.storeB (o := 0) (new := evC ev0) b2 rfl rfl rfl rfl (by decide) (evC_one _) fun w3 b3 c3 s3 => ?_
    (repeat' (first | refine Wl.assignE (by conv => { lhs; whnf }) ?_ | refine Wl.nil ?_ | refine Qseq.normal ?_ | refine Wc.ret ?_ | refine Qseq.ret ?_))
    exact Qfn.retR (results2 rfl (rvOf_agg (e := 27) rfl rfl b3 rfl) (rvOf_tmp rfl)) ⟨_, rfl, ⟨ev0, false, rfl, fun e => (by cases e), fun _ => hq⟩, Chg.trans n02 c3 fun k hk e => by omega⟩
  clear hbad
  obtain ⟨p0, h0⟩ := get_lt ps (k := 0) (by omega)
  obtain ⟨p1, h1⟩ := get_lt ps (k := 1) (by omega)
  obtain ⟨p2, h2⟩ := get_lt ps (k := 2) (by omega)
  obtain ⟨p3, h3⟩ := get_lt ps (k := 3) (by omega)
  obtain ⟨p4, h4⟩ := get_lt ps (k := 4) (by omega)
  (repeat' (first | refine Wl.assignE (by conv => { lhs; whnf }) ?_ | refine Wl.nil ?_ | refine Qseq.normal ?_))
  refine Wk.Wc.cutW [(0, vs s), (2, pT w.heap.size), (4, .slice a ps.length cp)] (fun W => w2 = W) ?_ ?_
  · (repeat' (first | refine Wl.moveE (by conv => { lhs; whnf }) ?_ | refine Wl.nil ?_ | refine Wl.guardY rfl rfl ?_ | refine Wl.guardN rfl rfl ?_ | refine Wl.pickTE rfl (by conv => { lhs; whnf }) ?_ | refine Wl.pickFE rfl (by conv => { lhs; whnf }) ?_ | refine Wl.lenS rfl ?_ | refine Qseq.normal ?_ | refine Wc.seq ?_ | refine Wc.region ?_ | refine Wc.skip ?_ | refine Wc.condF rfl ?_ | (refine Wl.neq rfl rfl (fun _ => ?_) (fun _ => ?_) <;> (first | (exfalso; omega) | skip))))
    · exact ⟨rfl, ⟨rfl, rfl, rfl, trivial⟩, rfl⟩
    · exact ⟨rfl, ⟨rfl, rfl, rfl, trivial⟩, rfl⟩
  rintro G2 _ rfl
  simp only [upds]
  have z2 := n02.size
  have e2 := b2.lt
  (repeat' (first | refine Wc.seq ?_ | refine Wc.region ?_))
  refine Wl.alloc fun w3 b3 n3 s3 => ?_
  replace b3 : Bk w3 w2.heap.size 27 (evC ev0) := b3
  have bb3 := b2.chg n3 (fun e => e)
  have n03 := n02.trans n3
  have z3 := n3.size
  have rv3 := rv.keep (stable_one _) n3.keep
  clear b2 n02 n3 rv
  (repeat' (first | refine Wl.moveE (by conv => { lhs; whnf }) ?_ | refine Wl.nil ?_ | refine Qseq.normal ?_ | refine Wc.seq ?_ | refine Wc.region ?_))
  refine Wl.idxAddrV rv3 rfl rfl (by omega) h0 fun b o hc => ?_
  refine Wl.load1 rfl hc ?_
  refine Wl.call (ParseUint_spec (hE.new n03) (by have := hpl 0 p0 h0; omega)) rfl ?_
  rintro _ w4 ⟨⟨k0, e0, rfl, hk0, hm0⟩, n4⟩
  have b4 := b3.chg n4 (fun e => e)
  (repeat' (first | refine Wl.moveE (by conv => { lhs; whnf }) ?_ | refine Wl.extract rfl rfl ?_ | refine Wl.fieldAddr rfl rfl ?_))
  refine Wl.store1 b4 rfl (by simp [evC]) rfl rfl fun w5 b5 c5 => ?_
  replace b5 : Bk w5 w2.heap.size 27 (evC ⟨k0, 0, 0, 0, [], 0⟩) := b5
  have c35 : Chg (fun k => k = w2.heap.size) w3 w5 := Chg.trans n4.any c5 fun _ _ e => e
  clear b3 n4 b4 c5 hc
  have n05 : New w w5 := Chg.trans n03 c35 fun k hk e => by omega
  have bb5 := bb3.chg c35 (by omega)
  have rv5 := rv3.keep (stable_one _) (c35.keep fun k hk e e' => by omega)
  clear bb3 rv3 n03 c35
  (repeat' (first | refine Wl.moveE (by conv => { lhs; whnf }) ?_ | refine Wl.nil ?_ | refine Qseq.normal ?_ | refine Wc.seq ?_ | refine Wc.region ?_))
  refine Wl.idxAddrV rv5 rfl rfl (by omega) h1 fun b o hc => ?_
  refine Wl.load1 rfl hc ?_
  refine Wl.call (ParseInt_spec (hE.new n05) (by have := hpl 1 p1 h1; omega)) rfl ?_
  rintro _ w6 ⟨⟨k1, e1, rfl, hk1, hk1', hm1⟩, n6⟩
  have b6 := b5.chg n6 (fun e => e)
  (repeat' (first | refine Wl.moveE (by conv => { lhs; whnf }) ?_ | refine Wl.extract rfl rfl ?_ | refine Wl.fieldAddr rfl rfl ?_))
  refine Wl.store1 b6 rfl (by simp [evC]) rfl rfl fun w7 b7 c7 => ?_
  replace b7 : Bk w7 w2.heap.size 27 (evC ⟨k0, 0, k1, 0, [], 0⟩) := b7
  have c57 : Chg (fun k => k = w2.heap.size) w5 w7 := Chg.trans n6.any c7 fun _ _ e => e
  clear b5 n6 b6 c7 hc
  have n07 : New w w7 := Chg.trans n05 c57 fun k hk e => by omega
  have bb7 := bb5.chg c57 (by omega)
  have rv7 := rv5.keep (stable_one _) (c57.keep fun k hk e e' => by omega)
  have z7 := c57.size
  have z5 := n05.size
  clear c57 bb5 rv5 n05
  (repeat' (first | refine Wl.nil ?_ | refine Qseq.normal ?_))
  refine Wk.Wc.cutW [(0, vs s), (2, pT w.heap.size), (4, .slice a ps.length cp), (5, pT w2.heap.size)] (fun W => ∃ kd, kd = kindOf p2 9 ∧ Chg (fun k => k = w2.heap.size) w7 W ∧ Bk W w2.heap.size 27 (evC ⟨k0, 0, k1, kd, [], 0⟩)) ?_ ?_
  · (repeat' (first | refine Wc.seq ?_ | refine Wc.region ?_ | refine Wl.fieldAddr rfl rfl ?_))
    refine Wl.store1 b7 rfl (by simp [evC]) rfl rfl fun w8 b8 c8 => ?_
    replace b8 : Bk w8 w2.heap.size 27 (evC ⟨k0, 0, k1, 9, [], 0⟩) := b8
    (repeat' (first | refine Wl.nil ?_ | refine Qseq.normal ?_ | refine Wc.block ?_))
    refine Wc.loop (σ := Nat) (fun k => [(0, vs s), (2, pT w.heap.size), (4, .slice a ps.length cp), (5, pT w2.heap.size)]) (fun k W => k ≤ 9 ∧ kindOf p2 9 = kindOf p2 k ∧ Chg (fun k => k = w2.heap.size) w7 W ∧ Bk W w2.heap.size 27 (evC ⟨k0, 0, k1, k, [], 0⟩)) (fun k => k) 9 ⟨rfl, rfl, rfl, rfl, trivial⟩ ⟨Nat.le_refl _, rfl, c8, b8⟩ ?_
    clear b8 c8 b7
    rintro k G3 W ⟨hk9, hkk, cW, bW⟩
    simp only [upds]
    have rvW := rv7.keep (stable_one _) (cW.keep fun k hk e e' => by omega)
    (repeat' (refine Wc.seq ?_))
    refine Wc.regionT rfl (by kernel_rfl) (New W) (Chg.drew _ _) ?_
    intro W1 m1
    (repeat' (refine Wt.quiet rfl (Wq.fieldAddr rfl rfl (Wq.nil ?_))))
    refine Wt.quiet rfl (Wq.load1 rfl (u := .int .u8 k) (fun W' c => (bW.chg c (fun e => e)).cell (o := 3) rfl) (Wq.nil ?_))
    rcases Nat.eq_zero_or_pos k with hk0 | hk0
    · subst hk0
      (repeat' (first | refine Wt.nil ?_ | refine Wt.guardN rfl rfl (by assumption) ?_ | refine Wt.quiet rfl (Wq.moveE (by conv => { lhs; whnf }) (Wq.nil ?_)) | refine Wt.quiet rfl (Wq.pickFE rfl (by conv => { lhs; whnf }) (Wq.nil ?_)) | (refine Wt.quiet rfl (Wq.gtr rfl rfl (fun _ => Wq.nil ?_) (fun _ => Wq.nil ?_)) <;> (first | (exfalso; omega) | skip))))
      (repeat' (first | refine Qseq.normal ?_ | refine Wc.exit ?_ | refine Qseq.exit ?_ | refine Qblk.hit ?_ | refine Qloop.exit ?_ | refine Wc.condF rfl ?_))
      exact ⟨rfl, ⟨rfl, rfl, rfl, rfl, trivial⟩, 0, hkk.symm, Chg.trans cW m1.any fun _ _ e => e, bW.chg m1 (fun e => e)⟩
    · (repeat' (first | refine Wt.guardY rfl rfl ?_ | refine Wt.quiet rfl (Wq.moveE (by conv => { lhs; whnf }) (Wq.nil ?_)) | refine Wt.quiet rfl (Wq.fieldAddr rfl rfl (Wq.nil ?_)) | (refine Wt.quiet rfl (Wq.gtr rfl rfl (fun _ => Wq.nil ?_) (fun _ => Wq.nil ?_)) <;> (first | (exfalso; omega) | skip))))
      refine Wt.quiet rfl (Wq.load1 rfl (u := .int .u8 k) (fun W' c => (bW.chg c (fun e => e)).cell (o := 3) rfl) (Wq.nil ?_))
      (try refine Wt.guardY rfl rfl ?_)
      refine Wt.chain rfl (Wl.call (name_spec (k := k) (by omega)) rfl ?_)
      rintro _ W2 ⟨rfl, m2⟩
      have m12 := m1.trans m2
      refine Wl.nil ⟨rfl, m12, ?_⟩
      (repeat' (first | refine Wt.guardY rfl rfl ?_ | refine Wt.quiet rfl (Wq.moveE (by conv => { lhs; whnf }) (Wq.nil ?_))))
      refine Wt.quiet rfl (Wq.idxAddrV rvW (fun W' c => c.keep) rfl rfl (by omega) h2 fun b o hc => Wq.nil ?_)
      (try refine Wt.guardY rfl rfl ?_)
      refine Wt.quiet rfl (Wq.load1 rfl hc (Wq.nil ?_))
      obtain ⟨j, rfl⟩ : ∃ j, k = j + 1 := ⟨k - 1, by omega⟩
      by_cases hn : nameK (j + 1) = p2
      · have he : kindOf p2 (j + 1) = j + 1 := by unfold kindOf; rw [if_pos hn]
        (repeat' (first | refine Wt.nil ?_ | refine Wt.guardY rfl rfl ?_ | refine Wt.quiet rfl (Wq.pickTE rfl (by conv => { lhs; whnf }) (Wq.nil ?_)) | (refine Wt.quiet rfl (Wq.sneq rfl rfl (fun _ => Wq.nil ?_) (fun _ => Wq.nil ?_)) <;> (first | (exfalso; contradiction) | skip))))
        (repeat' (first | refine Qseq.normal ?_ | refine Wc.exit ?_ | refine Qseq.exit ?_ | refine Qblk.hit ?_ | refine Qloop.exit ?_ | refine Wc.condF rfl ?_))
        exact ⟨rfl, ⟨rfl, rfl, rfl, rfl, trivial⟩, j + 1, (hkk.trans he).symm, Chg.trans cW m12.any fun _ _ e => e, bW.chg m12 (fun e => e)⟩
      · have he : kindOf p2 (j + 1) = kindOf p2 j := by conv => lhs; unfold kindOf; rw [if_neg hn]
        (repeat' (first | refine Wt.nil ?_ | refine Wt.guardY rfl rfl ?_ | refine Wt.quiet rfl (Wq.pickTE rfl (by conv => { lhs; whnf }) (Wq.nil ?_)) | (refine Wt.quiet rfl (Wq.sneq rfl rfl (fun _ => Wq.nil ?_) (fun _ => Wq.nil ?_)) <;> (first | (exfalso; contradiction) | skip))))
        have bW2 := bW.chg m12 (fun e => e)
        (repeat' (first | refine Qseq.normal ?_ | refine Wc.seq ?_ | refine Wc.region ?_ | refine Wc.block ?_ | refine Wc.skip ?_ | refine Qblk.normal ?_ | refine Wc.condT rfl ?_ | refine Wl.fieldAddr rfl rfl ?_))
        refine Wl.load1 (u := .int .u8 (j + 1 : Nat)) rfl (bW2.cell (o := 3) rfl) ?_
        refine Wl.subW rfl rfl ?_
        rw [show ((j + 1 : Nat) : Int) - 1 = ((j : Nat) : Int) by omega, wrap_u rfl (by omega) (by simp [IntKind.bits]; omega)]
        (repeat' (refine Wl.fieldAddr rfl rfl ?_))
        refine Wl.store1 bW2 rfl (by simp [evC]) rfl rfl fun W3 b3' c3' => ?_
        replace b3' : Bk W3 w2.heap.size 27 (evC ⟨k0, 0, k1, j, [], 0⟩) := b3'
        (repeat' (refine Wl.nil ?_))
        exact Qloop.normal j ⟨rfl, rfl, rfl, rfl, trivial⟩ ⟨by omega, hkk.trans he, Chg.trans (Chg.trans cW m12.any fun _ _ e => e) c3' fun _ _ e => e, b3'⟩ (by omega)
  clear b7
  rintro G3 w8 ⟨kd, hkd, c78, b8⟩
  simp only [upds]
  have n08 : New w w8 := Chg.trans n07 c78 fun k hk e => by omega
  have bb8 := bb7.chg c78 (by omega)
  have rv8 := rv7.keep (stable_one _) (c78.keep fun k hk e e' => by omega)
  have z8 := c78.size
  clear c78 bb7 rv7 n07
  (repeat' (first | refine Wl.moveE (by conv => { lhs; whnf }) ?_ | refine Wc.seq ?_ | refine Wc.region ?_))
  refine Wl.idxAddrV rv8 rfl rfl (by omega) h3 fun b o hc => ?_
  refine Wl.load1 rfl hc ?_
  (repeat' (refine Wl.fieldAddr rfl rfl ?_))
  refine Wl.store1 b8 rfl (by simp [evC]) rfl rfl fun w9 b9 c9 => ?_
  replace b9 : Bk w9 w2.heap.size 27 (evC ⟨k0, 0, k1, kd, p3, 0⟩) := b9
  have n09 : New w w9 := Chg.trans n08 c9 fun k hk e => by omega
  have bb9 := bb8.chg c9 (by omega)
  have rv9 := rv8.keep (stable_one _) (c9.keep fun k hk e e' => by omega)
  have z9 := c9.size
  clear b8 c9 bb8 rv8 n08 hc
  (repeat' (first | refine Wl.moveE (by conv => { lhs; whnf }) ?_ | refine Wl.nil ?_ | refine Qseq.normal ?_ | refine Wc.seq ?_ | refine Wc.region ?_))
  refine Wl.idxAddrV rv9 rfl rfl (by omega) h4 fun b o hc => ?_
  refine Wl.load1 rfl hc ?_
  refine Wl.call (ParseInt_spec (hE.new n09) (by have := hpl 4 p4 h4; omega)) rfl ?_
  rintro _ w10 ⟨⟨k4, e4, rfl, hk4, hk4', hm4⟩, n10⟩
  have b10 := b9.chg n10 (fun e => e)
  (repeat' (first | refine Wl.moveE (by conv => { lhs; whnf }) ?_ | refine Wl.extract rfl rfl ?_ | refine Wl.fieldAddr rfl rfl ?_))
  refine Wl.store1 b10 rfl (by simp [evC]) rfl rfl fun w11 b11 c11 => ?_
  replace b11 : Bk w11 w2.heap.size 27 (evC ⟨k0, 0, k1, kd, p3, k4⟩) := b11
  have c911 : Chg (fun k => k = w2.heap.size) w9 w11 := Chg.trans n10.any c11 fun _ _ e => e
  have n011 : New w w11 := Chg.trans n09 c911 fun k hk e => by omega
  have bb11 := bb9.chg c911 (by omega)
  have rv11 := rv9.keep (stable_one _) (c911.keep fun k hk e e' => by omega)
  have z11 := c911.size
  clear b9 n10 b10 c11 c911 bb9 rv9 n09 hc
  (repeat' (first | refine Wl.nil ?_ | refine Qseq.normal ?_))
  refine Wk.Wc.cutW [(0, vs s), (2, pT w.heap.size), (5, pT w2.heap.size)] (fun W => ∃ k6 : Nat, k6 < 18446744073709551616 ∧ New w W ∧ Bk W w.heap.size 27 (evC ev0) ∧ Bk W w2.heap.size 27 (evC ⟨k0, k6, k1, kd, p3, k4⟩) ∧ (ps.length = 5 → k6 = 0) ∧ (∀ p6, ps[6]? = some p6 → ∀ m, m < 18446744073709551616 → p6 = decN m → k6 = m)) ?_ ?_
  · (repeat' (first | refine Wl.moveE (by conv => { lhs; whnf }) ?_ | refine Wl.nil ?_ | refine Wl.lenS rfl ?_ | refine Qseq.normal ?_ | refine Wc.seq ?_ | refine Wc.region ?_ | refine Wc.skip ?_ | refine Wc.condT rfl ?_ | refine Wc.condF rfl ?_ | refine Wl.eql rfl rfl (fun _ => ?_) (fun _ => ?_)))
    · obtain ⟨p6, h6⟩ := get_lt ps (k := 6) (by omega)
      refine Wl.idxAddrV rv11 rfl rfl (by omega) h6 fun b o hc => ?_
      refine Wl.load1 rfl hc ?_
      refine Wl.call (ParseUint_spec (hE.new n011) (by have := hpl 6 p6 h6; omega)) rfl ?_
      rintro _ w12 ⟨⟨k6, e6, rfl, hk6, hm6⟩, n12⟩
      have b12 := b11.chg n12 (fun e => e)
      (repeat' (first | refine Wl.moveE (by conv => { lhs; whnf }) ?_ | refine Wl.extract rfl rfl ?_ | refine Wl.fieldAddr rfl rfl ?_))
      refine Wl.store1 b12 rfl (by simp [evC]) rfl rfl fun w13 b13 c13 => ?_
      replace b13 : Bk w13 w2.heap.size 27 (evC ⟨k0, k6, k1, kd, p3, k4⟩) := b13
      have c1113 : Chg (fun k => k = w2.heap.size) w11 w13 := Chg.trans n12.any c13 fun _ _ e => e
      (repeat' (refine Wl.nil ?_))
      exact ⟨rfl, ⟨rfl, rfl, rfl, trivial⟩, k6, hk6, Chg.trans n011 c1113 fun k hk e => by omega, bb11.chg c1113 (by omega), b13, fun e => by omega, fun q hq m hm e => hm6 m hm (by rw [h6] at hq; cases hq; exact e)⟩
    · exact ⟨rfl, ⟨rfl, rfl, rfl, trivial⟩, 0, by omega, n011, bb11, b11, fun _ => rfl, fun q hq => by have := (List.getElem?_eq_some_iff.1 hq).1; omega⟩
  clear b11 bb11 rv11 n011
  rintro G4 W ⟨k6, hk6, nW, bb, bx, h60, h6⟩
  simp only [upds]
  have hkd9 : kd ≤ 9 := by rw [hkd]; exact kindOf_le _ _
  have hyW : EvW ⟨k0, k6, k1, kd, p3, k4⟩ := ⟨hk0, hk6, hk1, hk1', by show kd < 256; omega, hk4, hk4'⟩
  have key : ∀ x, EvL x → lineM x = s → x = ⟨k0, k6, k1, kd, p3, k4⟩ := by
    intro x hx e
    have hp := hsl x hx e
    have g : ∀ i : Nat, ps[i]? = (piecesM x)[i]? := fun i => by rw [hp]
    have g0 := (h0.symm.trans (g 0)).trans (show (piecesM x)[0]? = some (decN x.id) from rfl)
    have g1 := (h1.symm.trans (g 1)).trans (show (piecesM x)[1]? = some (decI x.tm) from rfl)
    have g2 := (h2.symm.trans (g 2)).trans (show (piecesM x)[2]? = some (nameK x.kd) from rfl)
    have g3 := (h3.symm.trans (g 3)).trans (show (piecesM x)[3]? = some x.pa from rfl)
    have g4 := (h4.symm.trans (g 4)).trans (show (piecesM x)[4]? = some (decI x.ar) from rfl)
    have q0 := hm0 x.id hx.w.id (Option.some.inj g0)
    have q1 := hm1 x.tm hx.w.t0 hx.w.t1 (Option.some.inj g1)
    have q3 := Option.some.inj g3
    have q4 := hm4 x.ar hx.w.a0 hx.w.a1 (Option.some.inj g4)
    have q2 : kd = x.kd := by
      rw [hkd, Option.some.inj g2]
      refine kindOf_of rfl hx.k ?_
      rcases Nat.lt_or_ge x.kd 10 with h | h
      · omega
      · exact absurd (nameK_big h) hx.k
    have q6 : k6 = x.ca := by
      by_cases hc0 : x.ca = 0
      · rw [hc0]
        refine h60 ?_
        rw [hp]; unfold piecesM; rw [if_pos hc0]; rfl
      · refine h6 (decN x.ca) ?_ x.ca hx.w.ca rfl
        rw [hp]; unfold piecesM; rw [if_neg hc0]; rfl
    subst q0 q1 q2 q3 q4 q6
    rfl
  have hp3 := hpl 3 p3 h3
  clear hsl hpl hm0 hm1 hm4 h6 h60 h0 h1 h2 h3 h4 hlen
  have zW := nW.size
  have bxC : ∀ W', Chg (fun k => k = w.heap.size) W W' → Bk W' w2.heap.size 27 (evC ⟨k0, k6, k1, kd, p3, k4⟩) := fun W' c => bx.chg c (by omega)
  refine Wc.seq ?_
  refine Wc.regionG (m := 34) rfl (by kernel_rfl) (fun W' => Chg (fun k => k = w.heap.size) W W') (Chg.drew _ _) rfl ?_
  intro W1 m1
  show Wg _ _ _ _ _ _ _ [0, 1, 2, 3, 4, 5, 6, 7, 8, 9, 10, 11, 12, 13, 14, 15, 16, 17, 18, 19, 20, 21, 22, 23, 24, 25, 26, 27, 28, 29, 30, 31, 32, 33] _ _
  refine Wk.Wg.qh rfl rfl rfl (Wq.loadAt (fun W' c => (bxC W' c).at) rfl rfl (Wq.nil ?_))
  refine Wk.Wg.qh rfl rfl rfl (Wq.loadAt (fun W' c => (bxC W' c).at) rfl rfl (Wq.nil ?_))
  refine Wg.quiet (q := 3) (l' := [2, 4, 5, 6, 7, 8, 9, 10, 11, 12, 13, 14, 15, 16, 17, 18, 19, 20, 21, 22, 23, 24, 25, 26, 27, 28, 29, 30, 31, 32, 33]) rfl rfl rfl (Wq.moveE (by conv => { lhs; whnf }) (Wq.nil ?_))
  refine Wk.Wg.oneH rfl rfl rfl rfl rfl (Wl.call (line_spec (x := ⟨k0, k6, k1, kd, p3, k4⟩) (ht.new (nW.trans m1)) hyW (by show p3.length ≤ _; omega)) rfl ?_)
  rintro _ W2 ⟨rfl, m2⟩
  replace m2 := m1.trans m2
  clear m1
  refine Wl.nil ⟨rfl, m2.any, ?_⟩
  by_cases hline : lineM ⟨k0, k6, k1, kd, p3, k4⟩ = s
  rotate_left
  · have hf : ∀ x, EvL x → lineM x ≠ s := fun x hx e => hline (by rw [← key x hx e]; exact e)
    (repeat' (first | refine Wg.nil ?_ | (refine Wg.qh rfl rfl rfl ?_; refine Wq.guardN rfl rfl ?_; try refine Wq.nil ?_) | (refine Wg.qh rfl rfl rfl ?_; (try refine Wq.guardY rfl rfl ?_); (first | refine Wq.moveE (by conv => { lhs; whnf }) ?_ | refine Wq.assignE (by conv => { lhs; whnf }) ?_ | refine Wq.extract rfl rfl ?_ | refine Wq.pickTE rfl (by conv => { lhs; whnf }) ?_ | refine Wq.pickFE rfl (by conv => { lhs; whnf }) ?_ | refine Wq.notB rfl ?_ | refine Wq.lenS rfl ?_ | refine Wq.lenStr rfl ?_ | refine Wq.nilP rfl ?_ | refine Wq.fieldAddr rfl rfl ?_ | refine Wq.add rfl rfl (by omega) (by omega) ?_ | refine Wq.sub rfl rfl (by omega) (by omega) ?_ | refine Wq.mul rfl rfl (by omega) (by omega) ?_ | refine Wq.convI rfl ?_ | (refine Wq.lss rfl rfl (fun _ => ?_) (fun _ => ?_) <;> (first | (exfalso; omega) | (exfalso; contradiction) | skip)) | (refine Wq.leq rfl rfl (fun _ => ?_) (fun _ => ?_) <;> (first | (exfalso; omega) | (exfalso; contradiction) | skip)) | (refine Wq.gtr rfl rfl (fun _ => ?_) (fun _ => ?_) <;> (first | (exfalso; omega) | (exfalso; contradiction) | skip)) | (refine Wq.geq rfl rfl (fun _ => ?_) (fun _ => ?_) <;> (first | (exfalso; omega) | (exfalso; contradiction) | skip)) | (refine Wq.eql rfl rfl (fun _ => ?_) (fun _ => ?_) <;> (first | (exfalso; omega) | (exfalso; contradiction) | skip)) | (refine Wq.neq rfl rfl (fun _ => ?_) (fun _ => ?_) <;> (first | (exfalso; omega) | (exfalso; contradiction) | skip)) | (refine Wq.seql rfl rfl (fun _ => ?_) (fun _ => ?_) <;> (first | (exfalso; omega) | (exfalso; contradiction) | skip)) | (refine Wq.sneq rfl rfl (fun _ => ?_) (fun _ => ?_) <;> (first | (exfalso; omega) | (exfalso; contradiction) | skip))); all_goals (try refine Wq.nil ?_))))
    refine Wk.Wg.oneH rfl rfl rfl rfl rfl (Wl.guardN rfl rfl (Wl.nil ⟨rfl, m2.any, ?_⟩))
    (repeat' (first | refine Wg.nil ?_ | (refine Wg.qh rfl rfl rfl ?_; refine Wq.guardN rfl rfl ?_; try refine Wq.nil ?_) | (refine Wg.qh rfl rfl rfl ?_; (try refine Wq.guardY rfl rfl ?_); (first | refine Wq.moveE (by conv => { lhs; whnf }) ?_ | refine Wq.assignE (by conv => { lhs; whnf }) ?_ | refine Wq.extract rfl rfl ?_ | refine Wq.pickTE rfl (by conv => { lhs; whnf }) ?_ | refine Wq.pickFE rfl (by conv => { lhs; whnf }) ?_ | refine Wq.notB rfl ?_ | refine Wq.lenS rfl ?_ | refine Wq.lenStr rfl ?_ | refine Wq.nilP rfl ?_ | refine Wq.fieldAddr rfl rfl ?_ | refine Wq.add rfl rfl (by omega) (by omega) ?_ | refine Wq.sub rfl rfl (by omega) (by omega) ?_ | refine Wq.mul rfl rfl (by omega) (by omega) ?_ | refine Wq.convI rfl ?_ | (refine Wq.lss rfl rfl (fun _ => ?_) (fun _ => ?_) <;> (first | (exfalso; omega) | (exfalso; contradiction) | skip)) | (refine Wq.leq rfl rfl (fun _ => ?_) (fun _ => ?_) <;> (first | (exfalso; omega) | (exfalso; contradiction) | skip)) | (refine Wq.gtr rfl rfl (fun _ => ?_) (fun _ => ?_) <;> (first | (exfalso; omega) | (exfalso; contradiction) | skip)) | (refine Wq.geq rfl rfl (fun _ => ?_) (fun _ => ?_) <;> (first | (exfalso; omega) | (exfalso; contradiction) | skip)) | (refine Wq.eql rfl rfl (fun _ => ?_) (fun _ => ?_) <;> (first | (exfalso; omega) | (exfalso; contradiction) | skip)) | (refine Wq.neq rfl rfl (fun _ => ?_) (fun _ => ?_) <;> (first | (exfalso; omega) | (exfalso; contradiction) | skip)) | (refine Wq.seql rfl rfl (fun _ => ?_) (fun _ => ?_) <;> (first | (exfalso; omega) | (exfalso; contradiction) | skip)) | (refine Wq.sneq rfl rfl (fun _ => ?_) (fun _ => ?_) <;> (first | (exfalso; omega) | (exfalso; contradiction) | skip))); all_goals (try refine Wq.nil ?_))))
    refine Wk.Wg.oneH rfl rfl rfl rfl rfl (Wl.storeB (o := 0) (new := evC ⟨k0, k6, k1, kd, p3, k4⟩) (bb.chg m2 (fun e => e)) rfl rfl rfl rfl (Nat.le_refl 6) (evC_one _) fun W9 b9 c9 s9 => ?_)
    have n9 : New w W9 := Chg.trans (nW.trans m2) c9 fun k hk e => by omega
    refine Wl.nil ⟨rfl, Chg.trans m2.any c9 fun _ _ e => e, ?_⟩
    (repeat' (first | refine Wg.nil ?_ | (refine Wg.qh rfl rfl rfl ?_; (try refine Wq.guardY rfl rfl ?_); (first | refine Wq.moveE (by conv => { lhs; whnf }) ?_ | refine Wq.assignE (by conv => { lhs; whnf }) ?_ | refine Wq.extract rfl rfl ?_ | refine Wq.pickTE rfl (by conv => { lhs; whnf }) ?_ | refine Wq.pickFE rfl (by conv => { lhs; whnf }) ?_ | refine Wq.notB rfl ?_ | refine Wq.lenS rfl ?_ | refine Wq.lenStr rfl ?_ | refine Wq.nilP rfl ?_ | refine Wq.fieldAddr rfl rfl ?_ | refine Wq.add rfl rfl (by omega) (by omega) ?_ | refine Wq.sub rfl rfl (by omega) (by omega) ?_ | refine Wq.mul rfl rfl (by omega) (by omega) ?_ | refine Wq.convI rfl ?_ | (refine Wq.lss rfl rfl (fun _ => ?_) (fun _ => ?_) <;> (first | (exfalso; omega) | (exfalso; contradiction) | skip)) | (refine Wq.leq rfl rfl (fun _ => ?_) (fun _ => ?_) <;> (first | (exfalso; omega) | (exfalso; contradiction) | skip)) | (refine Wq.gtr rfl rfl (fun _ => ?_) (fun _ => ?_) <;> (first | (exfalso; omega) | (exfalso; contradiction) | skip)) | (refine Wq.geq rfl rfl (fun _ => ?_) (fun _ => ?_) <;> (first | (exfalso; omega) | (exfalso; contradiction) | skip)) | (refine Wq.eql rfl rfl (fun _ => ?_) (fun _ => ?_) <;> (first | (exfalso; omega) | (exfalso; contradiction) | skip)) | (refine Wq.neq rfl rfl (fun _ => ?_) (fun _ => ?_) <;> (first | (exfalso; omega) | (exfalso; contradiction) | skip)) | (refine Wq.seql rfl rfl (fun _ => ?_) (fun _ => ?_) <;> (first | (exfalso; omega) | (exfalso; contradiction) | skip)) | (refine Wq.sneq rfl rfl (fun _ => ?_) (fun _ => ?_) <;> (first | (exfalso; omega) | (exfalso; contradiction) | skip))); all_goals (try refine Wq.nil ?_))))
    (repeat' (first | refine Qseq.normal ?_ | refine Wc.ret ?_))
    exact Qfn.retR (results2 rfl (rvOf_agg (e := 27) rfl rfl b9 rfl) (rvOf_tmp rfl)) ⟨_, rfl, ⟨⟨k0, k6, k1, kd, p3, k4⟩, false, rfl, fun e => (by cases e), fun _ => hf⟩, n9⟩
  by_cases hkd0 : kd = 0
  · have hf : ∀ x, EvL x → lineM x ≠ s := fun x hx e => hx.k (by rw [key x hx e]; show nameK kd = []; rw [hkd0]; rfl)
    (repeat' (first | refine Wg.nil ?_ | (refine Wg.qh rfl rfl rfl ?_; refine Wq.guardN rfl rfl ?_; try refine Wq.nil ?_) | (refine Wg.qh rfl rfl rfl ?_; (try refine Wq.guardY rfl rfl ?_); (first | refine Wq.moveE (by conv => { lhs; whnf }) ?_ | refine Wq.assignE (by conv => { lhs; whnf }) ?_ | refine Wq.extract rfl rfl ?_ | refine Wq.pickTE rfl (by conv => { lhs; whnf }) ?_ | refine Wq.pickFE rfl (by conv => { lhs; whnf }) ?_ | refine Wq.notB rfl ?_ | refine Wq.lenS rfl ?_ | refine Wq.lenStr rfl ?_ | refine Wq.nilP rfl ?_ | refine Wq.fieldAddr rfl rfl ?_ | refine Wq.add rfl rfl (by omega) (by omega) ?_ | refine Wq.sub rfl rfl (by omega) (by omega) ?_ | refine Wq.mul rfl rfl (by omega) (by omega) ?_ | refine Wq.convI rfl ?_ | (refine Wq.lss rfl rfl (fun _ => ?_) (fun _ => ?_) <;> (first | (exfalso; omega) | (exfalso; contradiction) | skip)) | (refine Wq.leq rfl rfl (fun _ => ?_) (fun _ => ?_) <;> (first | (exfalso; omega) | (exfalso; contradiction) | skip)) | (refine Wq.gtr rfl rfl (fun _ => ?_) (fun _ => ?_) <;> (first | (exfalso; omega) | (exfalso; contradiction) | skip)) | (refine Wq.geq rfl rfl (fun _ => ?_) (fun _ => ?_) <;> (first | (exfalso; omega) | (exfalso; contradiction) | skip)) | (refine Wq.eql rfl rfl (fun _ => ?_) (fun _ => ?_) <;> (first | (exfalso; omega) | (exfalso; contradiction) | skip)) | (refine Wq.neq rfl rfl (fun _ => ?_) (fun _ => ?_) <;> (first | (exfalso; omega) | (exfalso; contradiction) | skip)) | (refine Wq.seql rfl rfl (fun _ => ?_) (fun _ => ?_) <;> (first | (exfalso; omega) | (exfalso; contradiction) | skip)) | (refine Wq.sneq rfl rfl (fun _ => ?_) (fun _ => ?_) <;> (first | (exfalso; omega) | (exfalso; contradiction) | skip))); all_goals (try refine Wq.nil ?_))))
    refine Wk.Wg.qh rfl rfl rfl (Wq.guardY rfl rfl (Wq.load1 (u := .int .u8 kd) rfl (fun W' c => (bxC W' c).cell (o := 3) rfl) (Wq.nil ?_)))
    (repeat' (first | refine Wg.nil ?_ | (refine Wg.qh rfl rfl rfl ?_; refine Wq.guardN rfl rfl ?_; try refine Wq.nil ?_) | (refine Wg.qh rfl rfl rfl ?_; (try refine Wq.guardY rfl rfl ?_); (first | refine Wq.moveE (by conv => { lhs; whnf }) ?_ | refine Wq.assignE (by conv => { lhs; whnf }) ?_ | refine Wq.extract rfl rfl ?_ | refine Wq.pickTE rfl (by conv => { lhs; whnf }) ?_ | refine Wq.pickFE rfl (by conv => { lhs; whnf }) ?_ | refine Wq.notB rfl ?_ | refine Wq.lenS rfl ?_ | refine Wq.lenStr rfl ?_ | refine Wq.nilP rfl ?_ | refine Wq.fieldAddr rfl rfl ?_ | refine Wq.add rfl rfl (by omega) (by omega) ?_ | refine Wq.sub rfl rfl (by omega) (by omega) ?_ | refine Wq.mul rfl rfl (by omega) (by omega) ?_ | refine Wq.convI rfl ?_ | (refine Wq.lss rfl rfl (fun _ => ?_) (fun _ => ?_) <;> (first | (exfalso; omega) | (exfalso; contradiction) | skip)) | (refine Wq.leq rfl rfl (fun _ => ?_) (fun _ => ?_) <;> (first | (exfalso; omega) | (exfalso; contradiction) | skip)) | (refine Wq.gtr rfl rfl (fun _ => ?_) (fun _ => ?_) <;> (first | (exfalso; omega) | (exfalso; contradiction) | skip)) | (refine Wq.geq rfl rfl (fun _ => ?_) (fun _ => ?_) <;> (first | (exfalso; omega) | (exfalso; contradiction) | skip)) | (refine Wq.eql rfl rfl (fun _ => ?_) (fun _ => ?_) <;> (first | (exfalso; omega) | (exfalso; contradiction) | skip)) | (refine Wq.neq rfl rfl (fun _ => ?_) (fun _ => ?_) <;> (first | (exfalso; omega) | (exfalso; contradiction) | skip)) | (refine Wq.seql rfl rfl (fun _ => ?_) (fun _ => ?_) <;> (first | (exfalso; omega) | (exfalso; contradiction) | skip)) | (refine Wq.sneq rfl rfl (fun _ => ?_) (fun _ => ?_) <;> (first | (exfalso; omega) | (exfalso; contradiction) | skip))); all_goals (try refine Wq.nil ?_))))
    refine Wk.Wg.oneH rfl rfl rfl rfl rfl (Wl.guardN rfl rfl (Wl.nil ⟨rfl, m2.any, ?_⟩))
    (repeat' (first | refine Wg.nil ?_ | (refine Wg.qh rfl rfl rfl ?_; refine Wq.guardN rfl rfl ?_; try refine Wq.nil ?_) | (refine Wg.qh rfl rfl rfl ?_; (try refine Wq.guardY rfl rfl ?_); (first | refine Wq.moveE (by conv => { lhs; whnf }) ?_ | refine Wq.assignE (by conv => { lhs; whnf }) ?_ | refine Wq.extract rfl rfl ?_ | refine Wq.pickTE rfl (by conv => { lhs; whnf }) ?_ | refine Wq.pickFE rfl (by conv => { lhs; whnf }) ?_ | refine Wq.notB rfl ?_ | refine Wq.lenS rfl ?_ | refine Wq.lenStr rfl ?_ | refine Wq.nilP rfl ?_ | refine Wq.fieldAddr rfl rfl ?_ | refine Wq.add rfl rfl (by omega) (by omega) ?_ | refine Wq.sub rfl rfl (by omega) (by omega) ?_ | refine Wq.mul rfl rfl (by omega) (by omega) ?_ | refine Wq.convI rfl ?_ | (refine Wq.lss rfl rfl (fun _ => ?_) (fun _ => ?_) <;> (first | (exfalso; omega) | (exfalso; contradiction) | skip)) | (refine Wq.leq rfl rfl (fun _ => ?_) (fun _ => ?_) <;> (first | (exfalso; omega) | (exfalso; contradiction) | skip)) | (refine Wq.gtr rfl rfl (fun _ => ?_) (fun _ => ?_) <;> (first | (exfalso; omega) | (exfalso; contradiction) | skip)) | (refine Wq.geq rfl rfl (fun _ => ?_) (fun _ => ?_) <;> (first | (exfalso; omega) | (exfalso; contradiction) | skip)) | (refine Wq.eql rfl rfl (fun _ => ?_) (fun _ => ?_) <;> (first | (exfalso; omega) | (exfalso; contradiction) | skip)) | (refine Wq.neq rfl rfl (fun _ => ?_) (fun _ => ?_) <;> (first | (exfalso; omega) | (exfalso; contradiction) | skip)) | (refine Wq.seql rfl rfl (fun _ => ?_) (fun _ => ?_) <;> (first | (exfalso; omega) | (exfalso; contradiction) | skip)) | (refine Wq.sneq rfl rfl (fun _ => ?_) (fun _ => ?_) <;> (first | (exfalso; omega) | (exfalso; contradiction) | skip))); all_goals (try refine Wq.nil ?_))))
    refine Wk.Wg.oneH rfl rfl rfl rfl rfl (Wl.storeB (o := 0) (new := evC ⟨k0, k6, k1, kd, p3, k4⟩) (bb.chg m2 (fun e => e)) rfl rfl rfl rfl (Nat.le_refl 6) (evC_one _) fun W9 b9 c9 s9 => ?_)
    have n9 : New w W9 := Chg.trans (nW.trans m2) c9 fun k hk e => by omega
    refine Wl.nil ⟨rfl, Chg.trans m2.any c9 fun _ _ e => e, ?_⟩
    (repeat' (first | refine Wg.nil ?_ | (refine Wg.qh rfl rfl rfl ?_; (try refine Wq.guardY rfl rfl ?_); (first | refine Wq.moveE (by conv => { lhs; whnf }) ?_ | refine Wq.assignE (by conv => { lhs; whnf }) ?_ | refine Wq.extract rfl rfl ?_ | refine Wq.pickTE rfl (by conv => { lhs; whnf }) ?_ | refine Wq.pickFE rfl (by conv => { lhs; whnf }) ?_ | refine Wq.notB rfl ?_ | refine Wq.lenS rfl ?_ | refine Wq.lenStr rfl ?_ | refine Wq.nilP rfl ?_ | refine Wq.fieldAddr rfl rfl ?_ | refine Wq.add rfl rfl (by omega) (by omega) ?_ | refine Wq.sub rfl rfl (by omega) (by omega) ?_ | refine Wq.mul rfl rfl (by omega) (by omega) ?_ | refine Wq.convI rfl ?_ | (refine Wq.lss rfl rfl (fun _ => ?_) (fun _ => ?_) <;> (first | (exfalso; omega) | (exfalso; contradiction) | skip)) | (refine Wq.leq rfl rfl (fun _ => ?_) (fun _ => ?_) <;> (first | (exfalso; omega) | (exfalso; contradiction) | skip)) | (refine Wq.gtr rfl rfl (fun _ => ?_) (fun _ => ?_) <;> (first | (exfalso; omega) | (exfalso; contradiction) | skip)) | (refine Wq.geq rfl rfl (fun _ => ?_) (fun _ => ?_) <;> (first | (exfalso; omega) | (exfalso; contradiction) | skip)) | (refine Wq.eql rfl rfl (fun _ => ?_) (fun _ => ?_) <;> (first | (exfalso; omega) | (exfalso; contradiction) | skip)) | (refine Wq.neq rfl rfl (fun _ => ?_) (fun _ => ?_) <;> (first | (exfalso; omega) | (exfalso; contradiction) | skip)) | (refine Wq.seql rfl rfl (fun _ => ?_) (fun _ => ?_) <;> (first | (exfalso; omega) | (exfalso; contradiction) | skip)) | (refine Wq.sneq rfl rfl (fun _ => ?_) (fun _ => ?_) <;> (first | (exfalso; omega) | (exfalso; contradiction) | skip))); all_goals (try refine Wq.nil ?_))))
    (repeat' (first | refine Qseq.normal ?_ | refine Wc.ret ?_))
    exact Qfn.retR (results2 rfl (rvOf_agg (e := 27) rfl rfl b9 rfl) (rvOf_tmp rfl)) ⟨_, rfl, ⟨⟨k0, k6, k1, kd, p3, k4⟩, false, rfl, fun e => (by cases e), fun _ => hf⟩, n9⟩
  (repeat' (first | refine Wg.nil ?_ | (refine Wg.qh rfl rfl rfl ?_; refine Wq.guardN rfl rfl ?_; try refine Wq.nil ?_) | (refine Wg.qh rfl rfl rfl ?_; (try refine Wq.guardY rfl rfl ?_); (first | refine Wq.moveE (by conv => { lhs; whnf }) ?_ | refine Wq.assignE (by conv => { lhs; whnf }) ?_ | refine Wq.extract rfl rfl ?_ | refine Wq.pickTE rfl (by conv => { lhs; whnf }) ?_ | refine Wq.pickFE rfl (by conv => { lhs; whnf }) ?_ | refine Wq.notB rfl ?_ | refine Wq.lenS rfl ?_ | refine Wq.lenStr rfl ?_ | refine Wq.nilP rfl ?_ | refine Wq.fieldAddr rfl rfl ?_ | refine Wq.add rfl rfl (by omega) (by omega) ?_ | refine Wq.sub rfl rfl (by omega) (by omega) ?_ | refine Wq.mul rfl rfl (by omega) (by omega) ?_ | refine Wq.convI rfl ?_ | (refine Wq.lss rfl rfl (fun _ => ?_) (fun _ => ?_) <;> (first | (exfalso; omega) | (exfalso; contradiction) | skip)) | (refine Wq.leq rfl rfl (fun _ => ?_) (fun _ => ?_) <;> (first | (exfalso; omega) | (exfalso; contradiction) | skip)) | (refine Wq.gtr rfl rfl (fun _ => ?_) (fun _ => ?_) <;> (first | (exfalso; omega) | (exfalso; contradiction) | skip)) | (refine Wq.geq rfl rfl (fun _ => ?_) (fun _ => ?_) <;> (first | (exfalso; omega) | (exfalso; contradiction) | skip)) | (refine Wq.eql rfl rfl (fun _ => ?_) (fun _ => ?_) <;> (first | (exfalso; omega) | (exfalso; contradiction) | skip)) | (refine Wq.neq rfl rfl (fun _ => ?_) (fun _ => ?_) <;> (first | (exfalso; omega) | (exfalso; contradiction) | skip)) | (refine Wq.seql rfl rfl (fun _ => ?_) (fun _ => ?_) <;> (first | (exfalso; omega) | (exfalso; contradiction) | skip)) | (refine Wq.sneq rfl rfl (fun _ => ?_) (fun _ => ?_) <;> (first | (exfalso; omega) | (exfalso; contradiction) | skip))); all_goals (try refine Wq.nil ?_))))
  refine Wk.Wg.qh rfl rfl rfl (Wq.guardY rfl rfl (Wq.load1 (u := .int .u8 kd) rfl (fun W' c => (bxC W' c).cell (o := 3) rfl) (Wq.nil ?_)))
  (repeat' (first | refine Wg.nil ?_ | (refine Wg.qh rfl rfl rfl ?_; refine Wq.guardN rfl rfl ?_; try refine Wq.nil ?_) | (refine Wg.qh rfl rfl rfl ?_; (try refine Wq.guardY rfl rfl ?_); (first | refine Wq.moveE (by conv => { lhs; whnf }) ?_ | refine Wq.assignE (by conv => { lhs; whnf }) ?_ | refine Wq.extract rfl rfl ?_ | refine Wq.pickTE rfl (by conv => { lhs; whnf }) ?_ | refine Wq.pickFE rfl (by conv => { lhs; whnf }) ?_ | refine Wq.notB rfl ?_ | refine Wq.lenS rfl ?_ | refine Wq.lenStr rfl ?_ | refine Wq.nilP rfl ?_ | refine Wq.fieldAddr rfl rfl ?_ | refine Wq.add rfl rfl (by omega) (by omega) ?_ | refine Wq.sub rfl rfl (by omega) (by omega) ?_ | refine Wq.mul rfl rfl (by omega) (by omega) ?_ | refine Wq.convI rfl ?_ | (refine Wq.lss rfl rfl (fun _ => ?_) (fun _ => ?_) <;> (first | (exfalso; omega) | (exfalso; contradiction) | skip)) | (refine Wq.leq rfl rfl (fun _ => ?_) (fun _ => ?_) <;> (first | (exfalso; omega) | (exfalso; contradiction) | skip)) | (refine Wq.gtr rfl rfl (fun _ => ?_) (fun _ => ?_) <;> (first | (exfalso; omega) | (exfalso; contradiction) | skip)) | (refine Wq.geq rfl rfl (fun _ => ?_) (fun _ => ?_) <;> (first | (exfalso; omega) | (exfalso; contradiction) | skip)) | (refine Wq.eql rfl rfl (fun _ => ?_) (fun _ => ?_) <;> (first | (exfalso; omega) | (exfalso; contradiction) | skip)) | (refine Wq.neq rfl rfl (fun _ => ?_) (fun _ => ?_) <;> (first | (exfalso; omega) | (exfalso; contradiction) | skip)) | (refine Wq.seql rfl rfl (fun _ => ?_) (fun _ => ?_) <;> (first | (exfalso; omega) | (exfalso; contradiction) | skip)) | (refine Wq.sneq rfl rfl (fun _ => ?_) (fun _ => ?_) <;> (first | (exfalso; omega) | (exfalso; contradiction) | skip))); all_goals (try refine Wq.nil ?_))))
  refine Wk.Wg.qh rfl rfl rfl (Wq.guardY rfl rfl (Wq.load1 (u := vs p3) rfl (fun W' c => (bxC W' c).cell (o := 4) rfl) (Wq.nil ?_)))
  refine Wk.Wg.oneH rfl rfl rfl rfl rfl (Wl.guardY rfl rfl (Wl.call (path_spec (s := p3) (by omega)) rfl ?_))
  rintro _ W3 ⟨rfl, m3⟩
  replace m3 := m2.trans m3
  clear m2
  refine Wl.nil ⟨rfl, m3.any, ?_⟩
  cases hpp : pathM p3 with
  | false =>
    have hf : ∀ x, EvL x → lineM x ≠ s := fun x hx e => by
      have h1 := hx.p
      rw [key x hx e] at h1
      exact absurd (h1.symm.trans hpp) (by simp)
    (repeat' (first | refine Wg.nil ?_ | (refine Wg.qh rfl rfl rfl ?_; refine Wq.guardN rfl rfl ?_; try refine Wq.nil ?_) | (refine Wg.qh rfl rfl rfl ?_; (try refine Wq.guardY rfl rfl ?_); (first | refine Wq.moveE (by conv => { lhs; whnf }) ?_ | refine Wq.assignE (by conv => { lhs; whnf }) ?_ | refine Wq.extract rfl rfl ?_ | refine Wq.pickTE rfl (by conv => { lhs; whnf }) ?_ | refine Wq.pickFE rfl (by conv => { lhs; whnf }) ?_ | refine Wq.notB rfl ?_ | refine Wq.lenS rfl ?_ | refine Wq.lenStr rfl ?_ | refine Wq.nilP rfl ?_ | refine Wq.fieldAddr rfl rfl ?_ | refine Wq.add rfl rfl (by omega) (by omega) ?_ | refine Wq.sub rfl rfl (by omega) (by omega) ?_ | refine Wq.mul rfl rfl (by omega) (by omega) ?_ | refine Wq.convI rfl ?_ | (refine Wq.lss rfl rfl (fun _ => ?_) (fun _ => ?_) <;> (first | (exfalso; omega) | (exfalso; contradiction) | skip)) | (refine Wq.leq rfl rfl (fun _ => ?_) (fun _ => ?_) <;> (first | (exfalso; omega) | (exfalso; contradiction) | skip)) | (refine Wq.gtr rfl rfl (fun _ => ?_) (fun _ => ?_) <;> (first | (exfalso; omega) | (exfalso; contradiction) | skip)) | (refine Wq.geq rfl rfl (fun _ => ?_) (fun _ => ?_) <;> (first | (exfalso; omega) | (exfalso; contradiction) | skip)) | (refine Wq.eql rfl rfl (fun _ => ?_) (fun _ => ?_) <;> (first | (exfalso; omega) | (exfalso; contradiction) | skip)) | (refine Wq.neq rfl rfl (fun _ => ?_) (fun _ => ?_) <;> (first | (exfalso; omega) | (exfalso; contradiction) | skip)) | (refine Wq.seql rfl rfl (fun _ => ?_) (fun _ => ?_) <;> (first | (exfalso; omega) | (exfalso; contradiction) | skip)) | (refine Wq.sneq rfl rfl (fun _ => ?_) (fun _ => ?_) <;> (first | (exfalso; omega) | (exfalso; contradiction) | skip))); all_goals (try refine Wq.nil ?_))))
    refine Wk.Wg.oneH rfl rfl rfl rfl rfl (Wl.storeB (o := 0) (new := evC ⟨k0, k6, k1, kd, p3, k4⟩) (bb.chg m3 (fun e => e)) rfl rfl rfl rfl (Nat.le_refl 6) (evC_one _) fun W9 b9 c9 s9 => ?_)
    have n9 : New w W9 := Chg.trans (nW.trans m3) c9 fun k hk e => by omega
    refine Wl.nil ⟨rfl, Chg.trans m3.any c9 fun _ _ e => e, ?_⟩
    (repeat' (first | refine Wg.nil ?_ | (refine Wg.qh rfl rfl rfl ?_; (try refine Wq.guardY rfl rfl ?_); (first | refine Wq.moveE (by conv => { lhs; whnf }) ?_ | refine Wq.assignE (by conv => { lhs; whnf }) ?_ | refine Wq.extract rfl rfl ?_ | refine Wq.pickTE rfl (by conv => { lhs; whnf }) ?_ | refine Wq.pickFE rfl (by conv => { lhs; whnf }) ?_ | refine Wq.notB rfl ?_ | refine Wq.lenS rfl ?_ | refine Wq.lenStr rfl ?_ | refine Wq.nilP rfl ?_ | refine Wq.fieldAddr rfl rfl ?_ | refine Wq.add rfl rfl (by omega) (by omega) ?_ | refine Wq.sub rfl rfl (by omega) (by omega) ?_ | refine Wq.mul rfl rfl (by omega) (by omega) ?_ | refine Wq.convI rfl ?_ | (refine Wq.lss rfl rfl (fun _ => ?_) (fun _ => ?_) <;> (first | (exfalso; omega) | (exfalso; contradiction) | skip)) | (refine Wq.leq rfl rfl (fun _ => ?_) (fun _ => ?_) <;> (first | (exfalso; omega) | (exfalso; contradiction) | skip)) | (refine Wq.gtr rfl rfl (fun _ => ?_) (fun _ => ?_) <;> (first | (exfalso; omega) | (exfalso; contradiction) | skip)) | (refine Wq.geq rfl rfl (fun _ => ?_) (fun _ => ?_) <;> (first | (exfalso; omega) | (exfalso; contradiction) | skip)) | (refine Wq.eql rfl rfl (fun _ => ?_) (fun _ => ?_) <;> (first | (exfalso; omega) | (exfalso; contradiction) | skip)) | (refine Wq.neq rfl rfl (fun _ => ?_) (fun _ => ?_) <;> (first | (exfalso; omega) | (exfalso; contradiction) | skip)) | (refine Wq.seql rfl rfl (fun _ => ?_) (fun _ => ?_) <;> (first | (exfalso; omega) | (exfalso; contradiction) | skip)) | (refine Wq.sneq rfl rfl (fun _ => ?_) (fun _ => ?_) <;> (first | (exfalso; omega) | (exfalso; contradiction) | skip))); all_goals (try refine Wq.nil ?_))))
    (repeat' (first | refine Qseq.normal ?_ | refine Wc.ret ?_))
    exact Qfn.retR (results2 rfl (rvOf_agg (e := 27) rfl rfl b9 rfl) (rvOf_tmp rfl)) ⟨_, rfl, ⟨⟨k0, k6, k1, kd, p3, k4⟩, false, rfl, fun e => (by cases e), fun _ => hf⟩, n9⟩
  | true =>
    by_cases hk00 : k0 = 0
    · have hf : ∀ x, EvL x → lineM x ≠ s := fun x hx e => by
        have h1 := hx.i0
        rw [key x hx e] at h1
        exact absurd h1 (by show ¬ 0 < k0; omega)
      (repeat' (first | refine Wg.nil ?_ | (refine Wg.qh rfl rfl rfl ?_; refine Wq.guardN rfl rfl ?_; try refine Wq.nil ?_) | (refine Wg.qh rfl rfl rfl ?_; (try refine Wq.guardY rfl rfl ?_); (first | refine Wq.moveE (by conv => { lhs; whnf }) ?_ | refine Wq.assignE (by conv => { lhs; whnf }) ?_ | refine Wq.extract rfl rfl ?_ | refine Wq.pickTE rfl (by conv => { lhs; whnf }) ?_ | refine Wq.pickFE rfl (by conv => { lhs; whnf }) ?_ | refine Wq.notB rfl ?_ | refine Wq.lenS rfl ?_ | refine Wq.lenStr rfl ?_ | refine Wq.nilP rfl ?_ | refine Wq.fieldAddr rfl rfl ?_ | refine Wq.add rfl rfl (by omega) (by omega) ?_ | refine Wq.sub rfl rfl (by omega) (by omega) ?_ | refine Wq.mul rfl rfl (by omega) (by omega) ?_ | refine Wq.convI rfl ?_ | (refine Wq.lss rfl rfl (fun _ => ?_) (fun _ => ?_) <;> (first | (exfalso; omega) | (exfalso; contradiction) | skip)) | (refine Wq.leq rfl rfl (fun _ => ?_) (fun _ => ?_) <;> (first | (exfalso; omega) | (exfalso; contradiction) | skip)) | (refine Wq.gtr rfl rfl (fun _ => ?_) (fun _ => ?_) <;> (first | (exfalso; omega) | (exfalso; contradiction) | skip)) | (refine Wq.geq rfl rfl (fun _ => ?_) (fun _ => ?_) <;> (first | (exfalso; omega) | (exfalso; contradiction) | skip)) | (refine Wq.eql rfl rfl (fun _ => ?_) (fun _ => ?_) <;> (first | (exfalso; omega) | (exfalso; contradiction) | skip)) | (refine Wq.neq rfl rfl (fun _ => ?_) (fun _ => ?_) <;> (first | (exfalso; omega) | (exfalso; contradiction) | skip)) | (refine Wq.seql rfl rfl (fun _ => ?_) (fun _ => ?_) <;> (first | (exfalso; omega) | (exfalso; contradiction) | skip)) | (refine Wq.sneq rfl rfl (fun _ => ?_) (fun _ => ?_) <;> (first | (exfalso; omega) | (exfalso; contradiction) | skip))); all_goals (try refine Wq.nil ?_))))
      refine Wk.Wg.qh rfl rfl rfl (Wq.guardY rfl rfl (Wq.load1 (u := .int .u64 k0) rfl (fun W' c => (bxC W' c).cell (o := 0) rfl) (Wq.nil ?_)))
      (repeat' (first | refine Wg.nil ?_ | (refine Wg.qh rfl rfl rfl ?_; refine Wq.guardN rfl rfl ?_; try refine Wq.nil ?_) | (refine Wg.qh rfl rfl rfl ?_; (try refine Wq.guardY rfl rfl ?_); (first | refine Wq.moveE (by conv => { lhs; whnf }) ?_ | refine Wq.assignE (by conv => { lhs; whnf }) ?_ | refine Wq.extract rfl rfl ?_ | refine Wq.pickTE rfl (by conv => { lhs; whnf }) ?_ | refine Wq.pickFE rfl (by conv => { lhs; whnf }) ?_ | refine Wq.notB rfl ?_ | refine Wq.lenS rfl ?_ | refine Wq.lenStr rfl ?_ | refine Wq.nilP rfl ?_ | refine Wq.fieldAddr rfl rfl ?_ | refine Wq.add rfl rfl (by omega) (by omega) ?_ | refine Wq.sub rfl rfl (by omega) (by omega) ?_ | refine Wq.mul rfl rfl (by omega) (by omega) ?_ | refine Wq.convI rfl ?_ | (refine Wq.lss rfl rfl (fun _ => ?_) (fun _ => ?_) <;> (first | (exfalso; omega) | (exfalso; contradiction) | skip)) | (refine Wq.leq rfl rfl (fun _ => ?_) (fun _ => ?_) <;> (first | (exfalso; omega) | (exfalso; contradiction) | skip)) | (refine Wq.gtr rfl rfl (fun _ => ?_) (fun _ => ?_) <;> (first | (exfalso; omega) | (exfalso; contradiction) | skip)) | (refine Wq.geq rfl rfl (fun _ => ?_) (fun _ => ?_) <;> (first | (exfalso; omega) | (exfalso; contradiction) | skip)) | (refine Wq.eql rfl rfl (fun _ => ?_) (fun _ => ?_) <;> (first | (exfalso; omega) | (exfalso; contradiction) | skip)) | (refine Wq.neq rfl rfl (fun _ => ?_) (fun _ => ?_) <;> (first | (exfalso; omega) | (exfalso; contradiction) | skip)) | (refine Wq.seql rfl rfl (fun _ => ?_) (fun _ => ?_) <;> (first | (exfalso; omega) | (exfalso; contradiction) | skip)) | (refine Wq.sneq rfl rfl (fun _ => ?_) (fun _ => ?_) <;> (first | (exfalso; omega) | (exfalso; contradiction) | skip))); all_goals (try refine Wq.nil ?_))))
      refine Wk.Wg.oneH rfl rfl rfl rfl rfl (Wl.storeB (o := 0) (new := evC ⟨k0, k6, k1, kd, p3, k4⟩) (bb.chg m3 (fun e => e)) rfl rfl rfl rfl (Nat.le_refl 6) (evC_one _) fun W9 b9 c9 s9 => ?_)
      have n9 : New w W9 := Chg.trans (nW.trans m3) c9 fun k hk e => by omega
      refine Wl.nil ⟨rfl, Chg.trans m3.any c9 fun _ _ e => e, ?_⟩
      (repeat' (first | refine Wg.nil ?_ | (refine Wg.qh rfl rfl rfl ?_; (try refine Wq.guardY rfl rfl ?_); (first | refine Wq.moveE (by conv => { lhs; whnf }) ?_ | refine Wq.assignE (by conv => { lhs; whnf }) ?_ | refine Wq.extract rfl rfl ?_ | refine Wq.pickTE rfl (by conv => { lhs; whnf }) ?_ | refine Wq.pickFE rfl (by conv => { lhs; whnf }) ?_ | refine Wq.notB rfl ?_ | refine Wq.lenS rfl ?_ | refine Wq.lenStr rfl ?_ | refine Wq.nilP rfl ?_ | refine Wq.fieldAddr rfl rfl ?_ | refine Wq.add rfl rfl (by omega) (by omega) ?_ | refine Wq.sub rfl rfl (by omega) (by omega) ?_ | refine Wq.mul rfl rfl (by omega) (by omega) ?_ | refine Wq.convI rfl ?_ | (refine Wq.lss rfl rfl (fun _ => ?_) (fun _ => ?_) <;> (first | (exfalso; omega) | (exfalso; contradiction) | skip)) | (refine Wq.leq rfl rfl (fun _ => ?_) (fun _ => ?_) <;> (first | (exfalso; omega) | (exfalso; contradiction) | skip)) | (refine Wq.gtr rfl rfl (fun _ => ?_) (fun _ => ?_) <;> (first | (exfalso; omega) | (exfalso; contradiction) | skip)) | (refine Wq.geq rfl rfl (fun _ => ?_) (fun _ => ?_) <;> (first | (exfalso; omega) | (exfalso; contradiction) | skip)) | (refine Wq.eql rfl rfl (fun _ => ?_) (fun _ => ?_) <;> (first | (exfalso; omega) | (exfalso; contradiction) | skip)) | (refine Wq.neq rfl rfl (fun _ => ?_) (fun _ => ?_) <;> (first | (exfalso; omega) | (exfalso; contradiction) | skip)) | (refine Wq.seql rfl rfl (fun _ => ?_) (fun _ => ?_) <;> (first | (exfalso; omega) | (exfalso; contradiction) | skip)) | (refine Wq.sneq rfl rfl (fun _ => ?_) (fun _ => ?_) <;> (first | (exfalso; omega) | (exfalso; contradiction) | skip))); all_goals (try refine Wq.nil ?_))))
      (repeat' (first | refine Qseq.normal ?_ | refine Wc.ret ?_))
      exact Qfn.retR (results2 rfl (rvOf_agg (e := 27) rfl rfl b9 rfl) (rvOf_tmp rfl)) ⟨_, rfl, ⟨⟨k0, k6, k1, kd, p3, k4⟩, false, rfl, fun e => (by cases e), fun _ => hf⟩, n9⟩
    by_cases hk0m : k0 ≤ 4611686018427387904
    rotate_left
    · have hf : ∀ x, EvL x → lineM x ≠ s := fun x hx e => by
        have h1 := hx.i1
        rw [key x hx e] at h1
        exact absurd h1 hk0m
      (repeat' (first | refine Wg.nil ?_ | (refine Wg.qh rfl rfl rfl ?_; refine Wq.guardN rfl rfl ?_; try refine Wq.nil ?_) | (refine Wg.qh rfl rfl rfl ?_; (try refine Wq.guardY rfl rfl ?_); (first | refine Wq.moveE (by conv => { lhs; whnf }) ?_ | refine Wq.assignE (by conv => { lhs; whnf }) ?_ | refine Wq.extract rfl rfl ?_ | refine Wq.pickTE rfl (by conv => { lhs; whnf }) ?_ | refine Wq.pickFE rfl (by conv => { lhs; whnf }) ?_ | refine Wq.notB rfl ?_ | refine Wq.lenS rfl ?_ | refine Wq.lenStr rfl ?_ | refine Wq.nilP rfl ?_ | refine Wq.fieldAddr rfl rfl ?_ | refine Wq.add rfl rfl (by omega) (by omega) ?_ | refine Wq.sub rfl rfl (by omega) (by omega) ?_ | refine Wq.mul rfl rfl (by omega) (by omega) ?_ | refine Wq.convI rfl ?_ | (refine Wq.lss rfl rfl (fun _ => ?_) (fun _ => ?_) <;> (first | (exfalso; omega) | (exfalso; contradiction) | skip)) | (refine Wq.leq rfl rfl (fun _ => ?_) (fun _ => ?_) <;> (first | (exfalso; omega) | (exfalso; contradiction) | skip)) | (refine Wq.gtr rfl rfl (fun _ => ?_) (fun _ => ?_) <;> (first | (exfalso; omega) | (exfalso; contradiction) | skip)) | (refine Wq.geq rfl rfl (fun _ => ?_) (fun _ => ?_) <;> (first | (exfalso; omega) | (exfalso; contradiction) | skip)) | (refine Wq.eql rfl rfl (fun _ => ?_) (fun _ => ?_) <;> (first | (exfalso; omega) | (exfalso; contradiction) | skip)) | (refine Wq.neq rfl rfl (fun _ => ?_) (fun _ => ?_) <;> (first | (exfalso; omega) | (exfalso; contradiction) | skip)) | (refine Wq.seql rfl rfl (fun _ => ?_) (fun _ => ?_) <;> (first | (exfalso; omega) | (exfalso; contradiction) | skip)) | (refine Wq.sneq rfl rfl (fun _ => ?_) (fun _ => ?_) <;> (first | (exfalso; omega) | (exfalso; contradiction) | skip))); all_goals (try refine Wq.nil ?_))))
      refine Wk.Wg.qh rfl rfl rfl (Wq.guardY rfl rfl (Wq.load1 (u := .int .u64 k0) rfl (fun W' c => (bxC W' c).cell (o := 0) rfl) (Wq.nil ?_)))
      (repeat' (first | refine Wg.nil ?_ | (refine Wg.qh rfl rfl rfl ?_; refine Wq.guardN rfl rfl ?_; try refine Wq.nil ?_) | (refine Wg.qh rfl rfl rfl ?_; (try refine Wq.guardY rfl rfl ?_); (first | refine Wq.moveE (by conv => { lhs; whnf }) ?_ | refine Wq.assignE (by conv => { lhs; whnf }) ?_ | refine Wq.extract rfl rfl ?_ | refine Wq.pickTE rfl (by conv => { lhs; whnf }) ?_ | refine Wq.pickFE rfl (by conv => { lhs; whnf }) ?_ | refine Wq.notB rfl ?_ | refine Wq.lenS rfl ?_ | refine Wq.lenStr rfl ?_ | refine Wq.nilP rfl ?_ | refine Wq.fieldAddr rfl rfl ?_ | refine Wq.add rfl rfl (by omega) (by omega) ?_ | refine Wq.sub rfl rfl (by omega) (by omega) ?_ | refine Wq.mul rfl rfl (by omega) (by omega) ?_ | refine Wq.convI rfl ?_ | (refine Wq.lss rfl rfl (fun _ => ?_) (fun _ => ?_) <;> (first | (exfalso; omega) | (exfalso; contradiction) | skip)) | (refine Wq.leq rfl rfl (fun _ => ?_) (fun _ => ?_) <;> (first | (exfalso; omega) | (exfalso; contradiction) | skip)) | (refine Wq.gtr rfl rfl (fun _ => ?_) (fun _ => ?_) <;> (first | (exfalso; omega) | (exfalso; contradiction) | skip)) | (refine Wq.geq rfl rfl (fun _ => ?_) (fun _ => ?_) <;> (first | (exfalso; omega) | (exfalso; contradiction) | skip)) | (refine Wq.eql rfl rfl (fun _ => ?_) (fun _ => ?_) <;> (first | (exfalso; omega) | (exfalso; contradiction) | skip)) | (refine Wq.neq rfl rfl (fun _ => ?_) (fun _ => ?_) <;> (first | (exfalso; omega) | (exfalso; contradiction) | skip)) | (refine Wq.seql rfl rfl (fun _ => ?_) (fun _ => ?_) <;> (first | (exfalso; omega) | (exfalso; contradiction) | skip)) | (refine Wq.sneq rfl rfl (fun _ => ?_) (fun _ => ?_) <;> (first | (exfalso; omega) | (exfalso; contradiction) | skip))); all_goals (try refine Wq.nil ?_))))
      refine Wk.Wg.qh rfl rfl rfl (Wq.guardY rfl rfl (Wq.load1 (u := .int .u64 k0) rfl (fun W' c => (bxC W' c).cell (o := 0) rfl) (Wq.nil ?_)))
      (repeat' (first | refine Wg.nil ?_ | (refine Wg.qh rfl rfl rfl ?_; refine Wq.guardN rfl rfl ?_; try refine Wq.nil ?_) | (refine Wg.qh rfl rfl rfl ?_; (try refine Wq.guardY rfl rfl ?_); (first | refine Wq.moveE (by conv => { lhs; whnf }) ?_ | refine Wq.assignE (by conv => { lhs; whnf }) ?_ | refine Wq.extract rfl rfl ?_ | refine Wq.pickTE rfl (by conv => { lhs; whnf }) ?_ | refine Wq.pickFE rfl (by conv => { lhs; whnf }) ?_ | refine Wq.notB rfl ?_ | refine Wq.lenS rfl ?_ | refine Wq.lenStr rfl ?_ | refine Wq.nilP rfl ?_ | refine Wq.fieldAddr rfl rfl ?_ | refine Wq.add rfl rfl (by omega) (by omega) ?_ | refine Wq.sub rfl rfl (by omega) (by omega) ?_ | refine Wq.mul rfl rfl (by omega) (by omega) ?_ | refine Wq.convI rfl ?_ | (refine Wq.lss rfl rfl (fun _ => ?_) (fun _ => ?_) <;> (first | (exfalso; omega) | (exfalso; contradiction) | skip)) | (refine Wq.leq rfl rfl (fun _ => ?_) (fun _ => ?_) <;> (first | (exfalso; omega) | (exfalso; contradiction) | skip)) | (refine Wq.gtr rfl rfl (fun _ => ?_) (fun _ => ?_) <;> (first | (exfalso; omega) | (exfalso; contradiction) | skip)) | (refine Wq.geq rfl rfl (fun _ => ?_) (fun _ => ?_) <;> (first | (exfalso; omega) | (exfalso; contradiction) | skip)) | (refine Wq.eql rfl rfl (fun _ => ?_) (fun _ => ?_) <;> (first | (exfalso; omega) | (exfalso; contradiction) | skip)) | (refine Wq.neq rfl rfl (fun _ => ?_) (fun _ => ?_) <;> (first | (exfalso; omega) | (exfalso; contradiction) | skip)) | (refine Wq.seql rfl rfl (fun _ => ?_) (fun _ => ?_) <;> (first | (exfalso; omega) | (exfalso; contradiction) | skip)) | (refine Wq.sneq rfl rfl (fun _ => ?_) (fun _ => ?_) <;> (first | (exfalso; omega) | (exfalso; contradiction) | skip))); all_goals (try refine Wq.nil ?_))))
      refine Wk.Wg.oneH rfl rfl rfl rfl rfl (Wl.storeB (o := 0) (new := evC ⟨k0, k6, k1, kd, p3, k4⟩) (bb.chg m3 (fun e => e)) rfl rfl rfl rfl (Nat.le_refl 6) (evC_one _) fun W9 b9 c9 s9 => ?_)
      have n9 : New w W9 := Chg.trans (nW.trans m3) c9 fun k hk e => by omega
      refine Wl.nil ⟨rfl, Chg.trans m3.any c9 fun _ _ e => e, ?_⟩
      (repeat' (first | refine Wg.nil ?_ | (refine Wg.qh rfl rfl rfl ?_; (try refine Wq.guardY rfl rfl ?_); (first | refine Wq.moveE (by conv => { lhs; whnf }) ?_ | refine Wq.assignE (by conv => { lhs; whnf }) ?_ | refine Wq.extract rfl rfl ?_ | refine Wq.pickTE rfl (by conv => { lhs; whnf }) ?_ | refine Wq.pickFE rfl (by conv => { lhs; whnf }) ?_ | refine Wq.notB rfl ?_ | refine Wq.lenS rfl ?_ | refine Wq.lenStr rfl ?_ | refine Wq.nilP rfl ?_ | refine Wq.fieldAddr rfl rfl ?_ | refine Wq.add rfl rfl (by omega) (by omega) ?_ | refine Wq.sub rfl rfl (by omega) (by omega) ?_ | refine Wq.mul rfl rfl (by omega) (by omega) ?_ | refine Wq.convI rfl ?_ | (refine Wq.lss rfl rfl (fun _ => ?_) (fun _ => ?_) <;> (first | (exfalso; omega) | (exfalso; contradiction) | skip)) | (refine Wq.leq rfl rfl (fun _ => ?_) (fun _ => ?_) <;> (first | (exfalso; omega) | (exfalso; contradiction) | skip)) | (refine Wq.gtr rfl rfl (fun _ => ?_) (fun _ => ?_) <;> (first | (exfalso; omega) | (exfalso; contradiction) | skip)) | (refine Wq.geq rfl rfl (fun _ => ?_) (fun _ => ?_) <;> (first | (exfalso; omega) | (exfalso; contradiction) | skip)) | (refine Wq.eql rfl rfl (fun _ => ?_) (fun _ => ?_) <;> (first | (exfalso; omega) | (exfalso; contradiction) | skip)) | (refine Wq.neq rfl rfl (fun _ => ?_) (fun _ => ?_) <;> (first | (exfalso; omega) | (exfalso; contradiction) | skip)) | (refine Wq.seql rfl rfl (fun _ => ?_) (fun _ => ?_) <;> (first | (exfalso; omega) | (exfalso; contradiction) | skip)) | (refine Wq.sneq rfl rfl (fun _ => ?_) (fun _ => ?_) <;> (first | (exfalso; omega) | (exfalso; contradiction) | skip))); all_goals (try refine Wq.nil ?_))))
      (repeat' (first | refine Qseq.normal ?_ | refine Wc.ret ?_))
      exact Qfn.retR (results2 rfl (rvOf_agg (e := 27) rfl rfl b9 rfl) (rvOf_tmp rfl)) ⟨_, rfl, ⟨⟨k0, k6, k1, kd, p3, k4⟩, false, rfl, fun e => (by cases e), fun _ => hf⟩, n9⟩
    by_cases hk6m : k6 < k0
    rotate_left
    · have hf : ∀ x, EvL x → lineM x ≠ s := fun x hx e => by
        have h1 := hx.c
        rw [key x hx e] at h1
        exact absurd h1 hk6m
      (repeat' (first | refine Wg.nil ?_ | (refine Wg.qh rfl rfl rfl ?_; refine Wq.guardN rfl rfl ?_; try refine Wq.nil ?_) | (refine Wg.qh rfl rfl rfl ?_; (try refine Wq.guardY rfl rfl ?_); (first | refine Wq.moveE (by conv => { lhs; whnf }) ?_ | refine Wq.assignE (by conv => { lhs; whnf }) ?_ | refine Wq.extract rfl rfl ?_ | refine Wq.pickTE rfl (by conv => { lhs; whnf }) ?_ | refine Wq.pickFE rfl (by conv => { lhs; whnf }) ?_ | refine Wq.notB rfl ?_ | refine Wq.lenS rfl ?_ | refine Wq.lenStr rfl ?_ | refine Wq.nilP rfl ?_ | refine Wq.fieldAddr rfl rfl ?_ | refine Wq.add rfl rfl (by omega) (by omega) ?_ | refine Wq.sub rfl rfl (by omega) (by omega) ?_ | refine Wq.mul rfl rfl (by omega) (by omega) ?_ | refine Wq.convI rfl ?_ | (refine Wq.lss rfl rfl (fun _ => ?_) (fun _ => ?_) <;> (first | (exfalso; omega) | (exfalso; contradiction) | skip)) | (refine Wq.leq rfl rfl (fun _ => ?_) (fun _ => ?_) <;> (first | (exfalso; omega) | (exfalso; contradiction) | skip)) | (refine Wq.gtr rfl rfl (fun _ => ?_) (fun _ => ?_) <;> (first | (exfalso; omega) | (exfalso; contradiction) | skip)) | (refine Wq.geq rfl rfl (fun _ => ?_) (fun _ => ?_) <;> (first | (exfalso; omega) | (exfalso; contradiction) | skip)) | (refine Wq.eql rfl rfl (fun _ => ?_) (fun _ => ?_) <;> (first | (exfalso; omega) | (exfalso; contradiction) | skip)) | (refine Wq.neq rfl rfl (fun _ => ?_) (fun _ => ?_) <;> (first | (exfalso; omega) | (exfalso; contradiction) | skip)) | (refine Wq.seql rfl rfl (fun _ => ?_) (fun _ => ?_) <;> (first | (exfalso; omega) | (exfalso; contradiction) | skip)) | (refine Wq.sneq rfl rfl (fun _ => ?_) (fun _ => ?_) <;> (first | (exfalso; omega) | (exfalso; contradiction) | skip))); all_goals (try refine Wq.nil ?_))))
      refine Wk.Wg.qh rfl rfl rfl (Wq.guardY rfl rfl (Wq.load1 (u := .int .u64 k0) rfl (fun W' c => (bxC W' c).cell (o := 0) rfl) (Wq.nil ?_)))
      (repeat' (first | refine Wg.nil ?_ | (refine Wg.qh rfl rfl rfl ?_; refine Wq.guardN rfl rfl ?_; try refine Wq.nil ?_) | (refine Wg.qh rfl rfl rfl ?_; (try refine Wq.guardY rfl rfl ?_); (first | refine Wq.moveE (by conv => { lhs; whnf }) ?_ | refine Wq.assignE (by conv => { lhs; whnf }) ?_ | refine Wq.extract rfl rfl ?_ | refine Wq.pickTE rfl (by conv => { lhs; whnf }) ?_ | refine Wq.pickFE rfl (by conv => { lhs; whnf }) ?_ | refine Wq.notB rfl ?_ | refine Wq.lenS rfl ?_ | refine Wq.lenStr rfl ?_ | refine Wq.nilP rfl ?_ | refine Wq.fieldAddr rfl rfl ?_ | refine Wq.add rfl rfl (by omega) (by omega) ?_ | refine Wq.sub rfl rfl (by omega) (by omega) ?_ | refine Wq.mul rfl rfl (by omega) (by omega) ?_ | refine Wq.convI rfl ?_ | (refine Wq.lss rfl rfl (fun _ => ?_) (fun _ => ?_) <;> (first | (exfalso; omega) | (exfalso; contradiction) | skip)) | (refine Wq.leq rfl rfl (fun _ => ?_) (fun _ => ?_) <;> (first | (exfalso; omega) | (exfalso; contradiction) | skip)) | (refine Wq.gtr rfl rfl (fun _ => ?_) (fun _ => ?_) <;> (first | (exfalso; omega) | (exfalso; contradiction) | skip)) | (refine Wq.geq rfl rfl (fun _ => ?_) (fun _ => ?_) <;> (first | (exfalso; omega) | (exfalso; contradiction) | skip)) | (refine Wq.eql rfl rfl (fun _ => ?_) (fun _ => ?_) <;> (first | (exfalso; omega) | (exfalso; contradiction) | skip)) | (refine Wq.neq rfl rfl (fun _ => ?_) (fun _ => ?_) <;> (first | (exfalso; omega) | (exfalso; contradiction) | skip)) | (refine Wq.seql rfl rfl (fun _ => ?_) (fun _ => ?_) <;> (first | (exfalso; omega) | (exfalso; contradiction) | skip)) | (refine Wq.sneq rfl rfl (fun _ => ?_) (fun _ => ?_) <;> (first | (exfalso; omega) | (exfalso; contradiction) | skip))); all_goals (try refine Wq.nil ?_))))
      refine Wk.Wg.qh rfl rfl rfl (Wq.guardY rfl rfl (Wq.load1 (u := .int .u64 k0) rfl (fun W' c => (bxC W' c).cell (o := 0) rfl) (Wq.nil ?_)))
      (repeat' (first | refine Wg.nil ?_ | (refine Wg.qh rfl rfl rfl ?_; refine Wq.guardN rfl rfl ?_; try refine Wq.nil ?_) | (refine Wg.qh rfl rfl rfl ?_; (try refine Wq.guardY rfl rfl ?_); (first | refine Wq.moveE (by conv => { lhs; whnf }) ?_ | refine Wq.assignE (by conv => { lhs; whnf }) ?_ | refine Wq.extract rfl rfl ?_ | refine Wq.pickTE rfl (by conv => { lhs; whnf }) ?_ | refine Wq.pickFE rfl (by conv => { lhs; whnf }) ?_ | refine Wq.notB rfl ?_ | refine Wq.lenS rfl ?_ | refine Wq.lenStr rfl ?_ | refine Wq.nilP rfl ?_ | refine Wq.fieldAddr rfl rfl ?_ | refine Wq.add rfl rfl (by omega) (by omega) ?_ | refine Wq.sub rfl rfl (by omega) (by omega) ?_ | refine Wq.mul rfl rfl (by omega) (by omega) ?_ | refine Wq.convI rfl ?_ | (refine Wq.lss rfl rfl (fun _ => ?_) (fun _ => ?_) <;> (first | (exfalso; omega) | (exfalso; contradiction) | skip)) | (refine Wq.leq rfl rfl (fun _ => ?_) (fun _ => ?_) <;> (first | (exfalso; omega) | (exfalso; contradiction) | skip)) | (refine Wq.gtr rfl rfl (fun _ => ?_) (fun _ => ?_) <;> (first | (exfalso; omega) | (exfalso; contradiction) | skip)) | (refine Wq.geq rfl rfl (fun _ => ?_) (fun _ => ?_) <;> (first | (exfalso; omega) | (exfalso; contradiction) | skip)) | (refine Wq.eql rfl rfl (fun _ => ?_) (fun _ => ?_) <;> (first | (exfalso; omega) | (exfalso; contradiction) | skip)) | (refine Wq.neq rfl rfl (fun _ => ?_) (fun _ => ?_) <;> (first | (exfalso; omega) | (exfalso; contradiction) | skip)) | (refine Wq.seql rfl rfl (fun _ => ?_) (fun _ => ?_) <;> (first | (exfalso; omega) | (exfalso; contradiction) | skip)) | (refine Wq.sneq rfl rfl (fun _ => ?_) (fun _ => ?_) <;> (first | (exfalso; omega) | (exfalso; contradiction) | skip))); all_goals (try refine Wq.nil ?_))))
      refine Wk.Wg.qh rfl rfl rfl (Wq.guardY rfl rfl (Wq.load1 (u := .int .u64 k6) rfl (fun W' c => (bxC W' c).cell (o := 1) rfl) (Wq.nil ?_)))
      (repeat' (first | refine Wg.nil ?_ | (refine Wg.qh rfl rfl rfl ?_; refine Wq.guardN rfl rfl ?_; try refine Wq.nil ?_) | (refine Wg.qh rfl rfl rfl ?_; (try refine Wq.guardY rfl rfl ?_); (first | refine Wq.moveE (by conv => { lhs; whnf }) ?_ | refine Wq.assignE (by conv => { lhs; whnf }) ?_ | refine Wq.extract rfl rfl ?_ | refine Wq.pickTE rfl (by conv => { lhs; whnf }) ?_ | refine Wq.pickFE rfl (by conv => { lhs; whnf }) ?_ | refine Wq.notB rfl ?_ | refine Wq.lenS rfl ?_ | refine Wq.lenStr rfl ?_ | refine Wq.nilP rfl ?_ | refine Wq.fieldAddr rfl rfl ?_ | refine Wq.add rfl rfl (by omega) (by omega) ?_ | refine Wq.sub rfl rfl (by omega) (by omega) ?_ | refine Wq.mul rfl rfl (by omega) (by omega) ?_ | refine Wq.convI rfl ?_ | (refine Wq.lss rfl rfl (fun _ => ?_) (fun _ => ?_) <;> (first | (exfalso; omega) | (exfalso; contradiction) | skip)) | (refine Wq.leq rfl rfl (fun _ => ?_) (fun _ => ?_) <;> (first | (exfalso; omega) | (exfalso; contradiction) | skip)) | (refine Wq.gtr rfl rfl (fun _ => ?_) (fun _ => ?_) <;> (first | (exfalso; omega) | (exfalso; contradiction) | skip)) | (refine Wq.geq rfl rfl (fun _ => ?_) (fun _ => ?_) <;> (first | (exfalso; omega) | (exfalso; contradiction) | skip)) | (refine Wq.eql rfl rfl (fun _ => ?_) (fun _ => ?_) <;> (first | (exfalso; omega) | (exfalso; contradiction) | skip)) | (refine Wq.neq rfl rfl (fun _ => ?_) (fun _ => ?_) <;> (first | (exfalso; omega) | (exfalso; contradiction) | skip)) | (refine Wq.seql rfl rfl (fun _ => ?_) (fun _ => ?_) <;> (first | (exfalso; omega) | (exfalso; contradiction) | skip)) | (refine Wq.sneq rfl rfl (fun _ => ?_) (fun _ => ?_) <;> (first | (exfalso; omega) | (exfalso; contradiction) | skip))); all_goals (try refine Wq.nil ?_))))
      refine Wk.Wg.qh rfl rfl rfl (Wq.guardY rfl rfl (Wq.load1 (u := .int .u64 k0) rfl (fun W' c => (bxC W' c).cell (o := 0) rfl) (Wq.nil ?_)))
      (repeat' (first | refine Wg.nil ?_ | (refine Wg.qh rfl rfl rfl ?_; refine Wq.guardN rfl rfl ?_; try refine Wq.nil ?_) | (refine Wg.qh rfl rfl rfl ?_; (try refine Wq.guardY rfl rfl ?_); (first | refine Wq.moveE (by conv => { lhs; whnf }) ?_ | refine Wq.assignE (by conv => { lhs; whnf }) ?_ | refine Wq.extract rfl rfl ?_ | refine Wq.pickTE rfl (by conv => { lhs; whnf }) ?_ | refine Wq.pickFE rfl (by conv => { lhs; whnf }) ?_ | refine Wq.notB rfl ?_ | refine Wq.lenS rfl ?_ | refine Wq.lenStr rfl ?_ | refine Wq.nilP rfl ?_ | refine Wq.fieldAddr rfl rfl ?_ | refine Wq.add rfl rfl (by omega) (by omega) ?_ | refine Wq.sub rfl rfl (by omega) (by omega) ?_ | refine Wq.mul rfl rfl (by omega) (by omega) ?_ | refine Wq.convI rfl ?_ | (refine Wq.lss rfl rfl (fun _ => ?_) (fun _ => ?_) <;> (first | (exfalso; omega) | (exfalso; contradiction) | skip)) | (refine Wq.leq rfl rfl (fun _ => ?_) (fun _ => ?_) <;> (first | (exfalso; omega) | (exfalso; contradiction) | skip)) | (refine Wq.gtr rfl rfl (fun _ => ?_) (fun _ => ?_) <;> (first | (exfalso; omega) | (exfalso; contradiction) | skip)) | (refine Wq.geq rfl rfl (fun _ => ?_) (fun _ => ?_) <;> (first | (exfalso; omega) | (exfalso; contradiction) | skip)) | (refine Wq.eql rfl rfl (fun _ => ?_) (fun _ => ?_) <;> (first | (exfalso; omega) | (exfalso; contradiction) | skip)) | (refine Wq.neq rfl rfl (fun _ => ?_) (fun _ => ?_) <;> (first | (exfalso; omega) | (exfalso; contradiction) | skip)) | (refine Wq.seql rfl rfl (fun _ => ?_) (fun _ => ?_) <;> (first | (exfalso; omega) | (exfalso; contradiction) | skip)) | (refine Wq.sneq rfl rfl (fun _ => ?_) (fun _ => ?_) <;> (first | (exfalso; omega) | (exfalso; contradiction) | skip))); all_goals (try refine Wq.nil ?_))))
      refine Wk.Wg.oneH rfl rfl rfl rfl rfl (Wl.storeB (o := 0) (new := evC ⟨k0, k6, k1, kd, p3, k4⟩) (bb.chg m3 (fun e => e)) rfl rfl rfl rfl (Nat.le_refl 6) (evC_one _) fun W9 b9 c9 s9 => ?_)
      have n9 : New w W9 := Chg.trans (nW.trans m3) c9 fun k hk e => by omega
      refine Wl.nil ⟨rfl, Chg.trans m3.any c9 fun _ _ e => e, ?_⟩
      (repeat' (first | refine Wg.nil ?_ | (refine Wg.qh rfl rfl rfl ?_; (try refine Wq.guardY rfl rfl ?_); (first | refine Wq.moveE (by conv => { lhs; whnf }) ?_ | refine Wq.assignE (by conv => { lhs; whnf }) ?_ | refine Wq.extract rfl rfl ?_ | refine Wq.pickTE rfl (by conv => { lhs; whnf }) ?_ | refine Wq.pickFE rfl (by conv => { lhs; whnf }) ?_ | refine Wq.notB rfl ?_ | refine Wq.lenS rfl ?_ | refine Wq.lenStr rfl ?_ | refine Wq.nilP rfl ?_ | refine Wq.fieldAddr rfl rfl ?_ | refine Wq.add rfl rfl (by omega) (by omega) ?_ | refine Wq.sub rfl rfl (by omega) (by omega) ?_ | refine Wq.mul rfl rfl (by omega) (by omega) ?_ | refine Wq.convI rfl ?_ | (refine Wq.lss rfl rfl (fun _ => ?_) (fun _ => ?_) <;> (first | (exfalso; omega) | (exfalso; contradiction) | skip)) | (refine Wq.leq rfl rfl (fun _ => ?_) (fun _ => ?_) <;> (first | (exfalso; omega) | (exfalso; contradiction) | skip)) | (refine Wq.gtr rfl rfl (fun _ => ?_) (fun _ => ?_) <;> (first | (exfalso; omega) | (exfalso; contradiction) | skip)) | (refine Wq.geq rfl rfl (fun _ => ?_) (fun _ => ?_) <;> (first | (exfalso; omega) | (exfalso; contradiction) | skip)) | (refine Wq.eql rfl rfl (fun _ => ?_) (fun _ => ?_) <;> (first | (exfalso; omega) | (exfalso; contradiction) | skip)) | (refine Wq.neq rfl rfl (fun _ => ?_) (fun _ => ?_) <;> (first | (exfalso; omega) | (exfalso; contradiction) | skip)) | (refine Wq.seql rfl rfl (fun _ => ?_) (fun _ => ?_) <;> (first | (exfalso; omega) | (exfalso; contradiction) | skip)) | (refine Wq.sneq rfl rfl (fun _ => ?_) (fun _ => ?_) <;> (first | (exfalso; omega) | (exfalso; contradiction) | skip))); all_goals (try refine Wq.nil ?_))))
      (repeat' (first | refine Qseq.normal ?_ | refine Wc.ret ?_))
      exact Qfn.retR (results2 rfl (rvOf_agg (e := 27) rfl rfl b9 rfl) (rvOf_tmp rfl)) ⟨_, rfl, ⟨⟨k0, k6, k1, kd, p3, k4⟩, false, rfl, fun e => (by cases e), fun _ => hf⟩, n9⟩
    have hEv : EvL ⟨k0, k6, k1, kd, p3, k4⟩ := ⟨hyW, fun e => (by have h : nameK kd = [] := e; rw [nameK_nil] at h; omega), hpp, (by show 0 < k0; omega), hk0m, hk6m⟩
    (repeat' (first | refine Wg.nil ?_ | (refine Wg.qh rfl rfl rfl ?_; refine Wq.guardN rfl rfl ?_; try refine Wq.nil ?_) | (refine Wg.qh rfl rfl rfl ?_; (try refine Wq.guardY rfl rfl ?_); (first | refine Wq.moveE (by conv => { lhs; whnf }) ?_ | refine Wq.assignE (by conv => { lhs; whnf }) ?_ | refine Wq.extract rfl rfl ?_ | refine Wq.pickTE rfl (by conv => { lhs; whnf }) ?_ | refine Wq.pickFE rfl (by conv => { lhs; whnf }) ?_ | refine Wq.notB rfl ?_ | refine Wq.lenS rfl ?_ | refine Wq.lenStr rfl ?_ | refine Wq.nilP rfl ?_ | refine Wq.fieldAddr rfl rfl ?_ | refine Wq.add rfl rfl (by omega) (by omega) ?_ | refine Wq.sub rfl rfl (by omega) (by omega) ?_ | refine Wq.mul rfl rfl (by omega) (by omega) ?_ | refine Wq.convI rfl ?_ | (refine Wq.lss rfl rfl (fun _ => ?_) (fun _ => ?_) <;> (first | (exfalso; omega) | (exfalso; contradiction) | skip)) | (refine Wq.leq rfl rfl (fun _ => ?_) (fun _ => ?_) <;> (first | (exfalso; omega) | (exfalso; contradiction) | skip)) | (refine Wq.gtr rfl rfl (fun _ => ?_) (fun _ => ?_) <;> (first | (exfalso; omega) | (exfalso; contradiction) | skip)) | (refine Wq.geq rfl rfl (fun _ => ?_) (fun _ => ?_) <;> (first | (exfalso; omega) | (exfalso; contradiction) | skip)) | (refine Wq.eql rfl rfl (fun _ => ?_) (fun _ => ?_) <;> (first | (exfalso; omega) | (exfalso; contradiction) | skip)) | (refine Wq.neq rfl rfl (fun _ => ?_) (fun _ => ?_) <;> (first | (exfalso; omega) | (exfalso; contradiction) | skip)) | (refine Wq.seql rfl rfl (fun _ => ?_) (fun _ => ?_) <;> (first | (exfalso; omega) | (exfalso; contradiction) | skip)) | (refine Wq.sneq rfl rfl (fun _ => ?_) (fun _ => ?_) <;> (first | (exfalso; omega) | (exfalso; contradiction) | skip))); all_goals (try refine Wq.nil ?_))))
    refine Wk.Wg.qh rfl rfl rfl (Wq.guardY rfl rfl (Wq.load1 (u := .int .u64 k0) rfl (fun W' c => (bxC W' c).cell (o := 0) rfl) (Wq.nil ?_)))
    (repeat' (first | refine Wg.nil ?_ | (refine Wg.qh rfl rfl rfl ?_; refine Wq.guardN rfl rfl ?_; try refine Wq.nil ?_) | (refine Wg.qh rfl rfl rfl ?_; (try refine Wq.guardY rfl rfl ?_); (first | refine Wq.moveE (by conv => { lhs; whnf }) ?_ | refine Wq.assignE (by conv => { lhs; whnf }) ?_ | refine Wq.extract rfl rfl ?_ | refine Wq.pickTE rfl (by conv => { lhs; whnf }) ?_ | refine Wq.pickFE rfl (by conv => { lhs; whnf }) ?_ | refine Wq.notB rfl ?_ | refine Wq.lenS rfl ?_ | refine Wq.lenStr rfl ?_ | refine Wq.nilP rfl ?_ | refine Wq.fieldAddr rfl rfl ?_ | refine Wq.add rfl rfl (by omega) (by omega) ?_ | refine Wq.sub rfl rfl (by omega) (by omega) ?_ | refine Wq.mul rfl rfl (by omega) (by omega) ?_ | refine Wq.convI rfl ?_ | (refine Wq.lss rfl rfl (fun _ => ?_) (fun _ => ?_) <;> (first | (exfalso; omega) | (exfalso; contradiction) | skip)) | (refine Wq.leq rfl rfl (fun _ => ?_) (fun _ => ?_) <;> (first | (exfalso; omega) | (exfalso; contradiction) | skip)) | (refine Wq.gtr rfl rfl (fun _ => ?_) (fun _ => ?_) <;> (first | (exfalso; omega) | (exfalso; contradiction) | skip)) | (refine Wq.geq rfl rfl (fun _ => ?_) (fun _ => ?_) <;> (first | (exfalso; omega) | (exfalso; contradiction) | skip)) | (refine Wq.eql rfl rfl (fun _ => ?_) (fun _ => ?_) <;> (first | (exfalso; omega) | (exfalso; contradiction) | skip)) | (refine Wq.neq rfl rfl (fun _ => ?_) (fun _ => ?_) <;> (first | (exfalso; omega) | (exfalso; contradiction) | skip)) | (refine Wq.seql rfl rfl (fun _ => ?_) (fun _ => ?_) <;> (first | (exfalso; omega) | (exfalso; contradiction) | skip)) | (refine Wq.sneq rfl rfl (fun _ => ?_) (fun _ => ?_) <;> (first | (exfalso; omega) | (exfalso; contradiction) | skip))); all_goals (try refine Wq.nil ?_))))
    refine Wk.Wg.qh rfl rfl rfl (Wq.guardY rfl rfl (Wq.load1 (u := .int .u64 k0) rfl (fun W' c => (bxC W' c).cell (o := 0) rfl) (Wq.nil ?_)))
    (repeat' (first | refine Wg.nil ?_ | (refine Wg.qh rfl rfl rfl ?_; refine Wq.guardN rfl rfl ?_; try refine Wq.nil ?_) | (refine Wg.qh rfl rfl rfl ?_; (try refine Wq.guardY rfl rfl ?_); (first | refine Wq.moveE (by conv => { lhs; whnf }) ?_ | refine Wq.assignE (by conv => { lhs; whnf }) ?_ | refine Wq.extract rfl rfl ?_ | refine Wq.pickTE rfl (by conv => { lhs; whnf }) ?_ | refine Wq.pickFE rfl (by conv => { lhs; whnf }) ?_ | refine Wq.notB rfl ?_ | refine Wq.lenS rfl ?_ | refine Wq.lenStr rfl ?_ | refine Wq.nilP rfl ?_ | refine Wq.fieldAddr rfl rfl ?_ | refine Wq.add rfl rfl (by omega) (by omega) ?_ | refine Wq.sub rfl rfl (by omega) (by omega) ?_ | refine Wq.mul rfl rfl (by omega) (by omega) ?_ | refine Wq.convI rfl ?_ | (refine Wq.lss rfl rfl (fun _ => ?_) (fun _ => ?_) <;> (first | (exfalso; omega) | (exfalso; contradiction) | skip)) | (refine Wq.leq rfl rfl (fun _ => ?_) (fun _ => ?_) <;> (first | (exfalso; omega) | (exfalso; contradiction) | skip)) | (refine Wq.gtr rfl rfl (fun _ => ?_) (fun _ => ?_) <;> (first | (exfalso; omega) | (exfalso; contradiction) | skip)) | (refine Wq.geq rfl rfl (fun _ => ?_) (fun _ => ?_) <;> (first | (exfalso; omega) | (exfalso; contradiction) | skip)) | (refine Wq.eql rfl rfl (fun _ => ?_) (fun _ => ?_) <;> (first | (exfalso; omega) | (exfalso; contradiction) | skip)) | (refine Wq.neq rfl rfl (fun _ => ?_) (fun _ => ?_) <;> (first | (exfalso; omega) | (exfalso; contradiction) | skip)) | (refine Wq.seql rfl rfl (fun _ => ?_) (fun _ => ?_) <;> (first | (exfalso; omega) | (exfalso; contradiction) | skip)) | (refine Wq.sneq rfl rfl (fun _ => ?_) (fun _ => ?_) <;> (first | (exfalso; omega) | (exfalso; contradiction) | skip))); all_goals (try refine Wq.nil ?_))))
    refine Wk.Wg.qh rfl rfl rfl (Wq.guardY rfl rfl (Wq.load1 (u := .int .u64 k6) rfl (fun W' c => (bxC W' c).cell (o := 1) rfl) (Wq.nil ?_)))
    (repeat' (first | refine Wg.nil ?_ | (refine Wg.qh rfl rfl rfl ?_; refine Wq.guardN rfl rfl ?_; try refine Wq.nil ?_) | (refine Wg.qh rfl rfl rfl ?_; (try refine Wq.guardY rfl rfl ?_); (first | refine Wq.moveE (by conv => { lhs; whnf }) ?_ | refine Wq.assignE (by conv => { lhs; whnf }) ?_ | refine Wq.extract rfl rfl ?_ | refine Wq.pickTE rfl (by conv => { lhs; whnf }) ?_ | refine Wq.pickFE rfl (by conv => { lhs; whnf }) ?_ | refine Wq.notB rfl ?_ | refine Wq.lenS rfl ?_ | refine Wq.lenStr rfl ?_ | refine Wq.nilP rfl ?_ | refine Wq.fieldAddr rfl rfl ?_ | refine Wq.add rfl rfl (by omega) (by omega) ?_ | refine Wq.sub rfl rfl (by omega) (by omega) ?_ | refine Wq.mul rfl rfl (by omega) (by omega) ?_ | refine Wq.convI rfl ?_ | (refine Wq.lss rfl rfl (fun _ => ?_) (fun _ => ?_) <;> (first | (exfalso; omega) | (exfalso; contradiction) | skip)) | (refine Wq.leq rfl rfl (fun _ => ?_) (fun _ => ?_) <;> (first | (exfalso; omega) | (exfalso; contradiction) | skip)) | (refine Wq.gtr rfl rfl (fun _ => ?_) (fun _ => ?_) <;> (first | (exfalso; omega) | (exfalso; contradiction) | skip)) | (refine Wq.geq rfl rfl (fun _ => ?_) (fun _ => ?_) <;> (first | (exfalso; omega) | (exfalso; contradiction) | skip)) | (refine Wq.eql rfl rfl (fun _ => ?_) (fun _ => ?_) <;> (first | (exfalso; omega) | (exfalso; contradiction) | skip)) | (refine Wq.neq rfl rfl (fun _ => ?_) (fun _ => ?_) <;> (first | (exfalso; omega) | (exfalso; contradiction) | skip)) | (refine Wq.seql rfl rfl (fun _ => ?_) (fun _ => ?_) <;> (first | (exfalso; omega) | (exfalso; contradiction) | skip)) | (refine Wq.sneq rfl rfl (fun _ => ?_) (fun _ => ?_) <;> (first | (exfalso; omega) | (exfalso; contradiction) | skip))); all_goals (try refine Wq.nil ?_))))
    refine Wk.Wg.qh rfl rfl rfl (Wq.guardY rfl rfl (Wq.load1 (u := .int .u64 k0) rfl (fun W' c => (bxC W' c).cell (o := 0) rfl) (Wq.nil ?_)))
    (repeat' (first | refine Wg.nil ?_ | (refine Wg.qh rfl rfl rfl ?_; refine Wq.guardN rfl rfl ?_; try refine Wq.nil ?_) | (refine Wg.qh rfl rfl rfl ?_; (try refine Wq.guardY rfl rfl ?_); (first | refine Wq.moveE (by conv => { lhs; whnf }) ?_ | refine Wq.assignE (by conv => { lhs; whnf }) ?_ | refine Wq.extract rfl rfl ?_ | refine Wq.pickTE rfl (by conv => { lhs; whnf }) ?_ | refine Wq.pickFE rfl (by conv => { lhs; whnf }) ?_ | refine Wq.notB rfl ?_ | refine Wq.lenS rfl ?_ | refine Wq.lenStr rfl ?_ | refine Wq.nilP rfl ?_ | refine Wq.fieldAddr rfl rfl ?_ | refine Wq.add rfl rfl (by omega) (by omega) ?_ | refine Wq.sub rfl rfl (by omega) (by omega) ?_ | refine Wq.mul rfl rfl (by omega) (by omega) ?_ | refine Wq.convI rfl ?_ | (refine Wq.lss rfl rfl (fun _ => ?_) (fun _ => ?_) <;> (first | (exfalso; omega) | (exfalso; contradiction) | skip)) | (refine Wq.leq rfl rfl (fun _ => ?_) (fun _ => ?_) <;> (first | (exfalso; omega) | (exfalso; contradiction) | skip)) | (refine Wq.gtr rfl rfl (fun _ => ?_) (fun _ => ?_) <;> (first | (exfalso; omega) | (exfalso; contradiction) | skip)) | (refine Wq.geq rfl rfl (fun _ => ?_) (fun _ => ?_) <;> (first | (exfalso; omega) | (exfalso; contradiction) | skip)) | (refine Wq.eql rfl rfl (fun _ => ?_) (fun _ => ?_) <;> (first | (exfalso; omega) | (exfalso; contradiction) | skip)) | (refine Wq.neq rfl rfl (fun _ => ?_) (fun _ => ?_) <;> (first | (exfalso; omega) | (exfalso; contradiction) | skip)) | (refine Wq.seql rfl rfl (fun _ => ?_) (fun _ => ?_) <;> (first | (exfalso; omega) | (exfalso; contradiction) | skip)) | (refine Wq.sneq rfl rfl (fun _ => ?_) (fun _ => ?_) <;> (first | (exfalso; omega) | (exfalso; contradiction) | skip))); all_goals (try refine Wq.nil ?_))))
    refine Wk.Wg.oneH rfl rfl rfl rfl rfl (Wl.storeB (o := 0) (new := evC ⟨k0, k6, k1, kd, p3, k4⟩) (bb.chg m3 (fun e => e)) rfl rfl rfl rfl (Nat.le_refl 6) (evC_one _) fun W9 b9 c9 s9 => ?_)
    have n9 : New w W9 := Chg.trans (nW.trans m3) c9 fun k hk e => by omega
    refine Wl.nil ⟨rfl, Chg.trans m3.any c9 fun _ _ e => e, ?_⟩
    (repeat' (first | refine Wg.nil ?_ | (refine Wg.qh rfl rfl rfl ?_; (try refine Wq.guardY rfl rfl ?_); (first | refine Wq.moveE (by conv => { lhs; whnf }) ?_ | refine Wq.assignE (by conv => { lhs; whnf }) ?_ | refine Wq.extract rfl rfl ?_ | refine Wq.pickTE rfl (by conv => { lhs; whnf }) ?_ | refine Wq.pickFE rfl (by conv => { lhs; whnf }) ?_ | refine Wq.notB rfl ?_ | refine Wq.lenS rfl ?_ | refine Wq.lenStr rfl ?_ | refine Wq.nilP rfl ?_ | refine Wq.fieldAddr rfl rfl ?_ | refine Wq.add rfl rfl (by omega) (by omega) ?_ | refine Wq.sub rfl rfl (by omega) (by omega) ?_ | refine Wq.mul rfl rfl (by omega) (by omega) ?_ | refine Wq.convI rfl ?_ | (refine Wq.lss rfl rfl (fun _ => ?_) (fun _ => ?_) <;> (first | (exfalso; omega) | (exfalso; contradiction) | skip)) | (refine Wq.leq rfl rfl (fun _ => ?_) (fun _ => ?_) <;> (first | (exfalso; omega) | (exfalso; contradiction) | skip)) | (refine Wq.gtr rfl rfl (fun _ => ?_) (fun _ => ?_) <;> (first | (exfalso; omega) | (exfalso; contradiction) | skip)) | (refine Wq.geq rfl rfl (fun _ => ?_) (fun _ => ?_) <;> (first | (exfalso; omega) | (exfalso; contradiction) | skip)) | (refine Wq.eql rfl rfl (fun _ => ?_) (fun _ => ?_) <;> (first | (exfalso; omega) | (exfalso; contradiction) | skip)) | (refine Wq.neq rfl rfl (fun _ => ?_) (fun _ => ?_) <;> (first | (exfalso; omega) | (exfalso; contradiction) | skip)) | (refine Wq.seql rfl rfl (fun _ => ?_) (fun _ => ?_) <;> (first | (exfalso; omega) | (exfalso; contradiction) | skip)) | (refine Wq.sneq rfl rfl (fun _ => ?_) (fun _ => ?_) <;> (first | (exfalso; omega) | (exfalso; contradiction) | skip))); all_goals (try refine Wq.nil ?_))))
    (repeat' (first | refine Qseq.normal ?_ | refine Wc.ret ?_))
    exact Qfn.retR (results2 rfl (rvOf_agg (e := 27) rfl rfl b9 rfl) (rvOf_tmp rfl)) ⟨_, rfl, ⟨⟨k0, k6, k1, kd, p3, k4⟩, true, rfl, fun _ => ⟨hEv, hline⟩, fun e => (by cases e)⟩, n9⟩
end Go.Proofs.YtjaendlcijmifaaGreatDoor

namespace Go.Proofs.YtjaendlcijmifaaGreatDoor
open Go Wk
open Go.RowKit (Below)
attribute [local irreducible] Go.Calls

theorem TrOk.evl {t : Tr} (h : TrOk t) {e : Ev} (he : e ∈ t.kept) : EvL e := by
  obtain ⟨i, hi⟩ := List.mem_iff_getElem?.1 he
  obtain ⟨h1, h2, h3⟩ := h.ok e he
  have h4 := h.ids i e hi
  have h5 := h.last
  have h6 := (List.getElem?_eq_some_iff.1 hi).1
  unfold Tr.last at h5
  exact ⟨h1, h2, h3, by omega, by omega, h.cas e he⟩
/-- A ring that is being filled. -/
structure RgW (Pb : Nat → Prop) (w : World) (b size gone : Nat) (v : Value) (ring : List Ev) : Prop where
  hb : Pb b
  bk : Bk w b 66 [vi size, v, vi (0 : Nat), .int .u64 gone]
  own : OwnS rEv 27 6 Pb (fun _ => False) w v ring
  ne : v.ownBlock ≠ some b
  len : ring.length ≤ size
  s1 : size ≤ 4096
  last : gone + ring.length ≤ 4611686018427387904
section
variable {Pb : Nat → Prop} {w w' : World} {b size gone : Nat} {v : Value} {ring : List Ev}
theorem RgW.new (h : RgW Pb w b size gone v ring) (n : New w w') : RgW Pb w' b size gone v ring :=
  ⟨h.hb, h.bk.chg n (fun e => e), h.own.new (plain_flat _) n, h.ne, h.len, h.s1, h.last⟩
theorem lastW_spec (h : RgW Pb w b size gone v ring) : Calls Tryz.prog 22 #[pT b] w (Ret fun r w' => r = .int .u64 (gone + ring.length : Nat) ∧ New w w') := by
  obtain ⟨a, cap, rfl, hc1, hc2⟩ := h.own.form
  have hl := h.last
  refine calls_of_Wc Tryz.func22 rfl Tryz.ntmps22 rfl ?_
  (repeat' (first | refine Wl.assignE (by conv => { lhs; whnf }) ?_ | refine Wl.nil ?_ | refine Qseq.normal ?_ | refine Wc.seq ?_ | refine Wc.region ?_))
  refine Wc.regionN rfl (by kernel_rfl) ?_
  (repeat' (first | refine Wq.moveE (by conv => { lhs; whnf }) ?_ | refine Wq.nilP rfl ?_ | refine Wq.fieldAddr rfl rfl ?_))
  refine Wq.load1 rfl (fun w' n => (h.new n).bk.cell (o := 3) rfl) ?_
  (repeat' (first | refine Wq.moveE (by conv => { lhs; whnf }) ?_ | refine Wq.nilP rfl ?_ | refine Wq.fieldAddr rfl rfl ?_))
  refine Wq.load1 rfl (fun w' n => (h.new n).bk.cell (o := 1) rfl) ?_
  (repeat' (first | refine Wq.lenS rfl ?_ | refine Wq.convI rfl ?_))
  refine Wq.addW rfl rfl ?_
  (repeat' (first | refine Wq.assignE (by conv => { lhs; whnf }) ?_ | refine Wq.nil ?_))
  intro w1 n1
  (repeat' (first | refine Qseq.normal ?_ | refine Wc.ret ?_))
  refine Qfn.ret1 rfl rfl ⟨_, rfl, ?_, n1⟩
  show Value.int .u64 (IntKind.u64.wrap ((gone : Int) + IntKind.u64.wrap (ring.length : Int))) = _
  rw [wu (x := (ring.length : Int)) (by omega) (by omega), wu (by omega) (by omega)]
  rfl
set_option maxHeartbeats 1000000 in
theorem putW_spec {x : Ev} (h : RgW Pb w b size gone v ring) (hlt : ring.length < size) (hlast : gone + ring.length + 1 ≤ 4611686018427387904) :
    Calls Tryz.prog 26 #[pT b, evV x] w (Ret fun _ w' => (∃ v', RgW (fun k => Pb k ∨ w.heap.size ≤ k) w' b size gone v' (ring ++ [x])) ∧ Chg Pb w w') := by
  have hs := h.s1
  obtain ⟨a, cap, hv, hc1, hc2⟩ := h.own.form
  refine calls_of_Wc Tryz.func26 rfl Tryz.ntmps26 rfl ?_
  (repeat' (first | refine Wc.seq ?_ | refine Wc.region ?_))
  refine Wl.box rfl fun w1 b1 n1 s1 => ?_
  replace b1 : Bk w1 w.heap.size 27 (evC x) := b1
  have h1 := h.new n1
  have hblt := h.bk.lt
  have hvlt : ∀ k, v.ownBlock = some k → Pb k ∧ k < w.heap.size := fun k hk => h.own.lt hk
  have hne := h.ne
  (repeat' (first | refine Wl.nil ?_ | refine Qseq.normal ?_ | refine Wc.seq ?_))
  refine Wc.regionN rfl (by kernel_rfl) ?_
  (repeat' (first | refine Wq.moveE (by conv => { lhs; whnf }) ?_ | refine Wq.nilP rfl ?_ | refine Wq.fieldAddr rfl rfl ?_))
  refine Wq.load1 rfl (fun w' n => (h1.new n).bk.cell (o := 1) (u := .slice a ring.length cap) (by rw [hv]; rfl)) ?_
  (repeat' (first | refine Wq.moveE (by conv => { lhs; whnf }) ?_ | refine Wq.lenS rfl ?_ | refine Wq.nilP rfl ?_ | refine Wq.fieldAddr rfl rfl ?_))
  refine Wq.load1 rfl (fun w' n => (h1.new n).bk.cell (o := 0) rfl) ?_
  (repeat' (first | refine Wq.nil ?_ | (refine Wq.lss rfl rfl (fun _ => ?_) (fun _ => ?_) <;> (first | (exfalso; omega) | skip))))
  intro w2 n2
  have h2 := h1.new n2
  have b2 := b1.chg n2 (fun e => e)
  have n02 := n1.trans n2
  have s02 := n02.size
  clear h1 b1 n1 n2 h
  (repeat' (first | refine Qseq.normal ?_ | refine Wc.seq ?_ | refine Wc.condT rfl ?_))
  refine Wc.regionT rfl (by kernel_rfl) (fun w' => Chg (fun k => v.ownBlock = some k) w2 w') (Chg.drew _ _) ?_
  intro w3 n3
  have bk : ∀ w', Chg (fun k => v.ownBlock = some k) w2 w' → Bk w' b 66 [vi size, v, vi (0 : Nat), .int .u64 gone] := fun w' c => h2.bk.chg c hne
  have bx : ∀ w', Chg (fun k => v.ownBlock = some k) w2 w' → Bk w' w.heap.size 27 (evC x) := fun w' c => b2.chg c fun e => by have := (hvlt _ e).2; omega
  (repeat' (first | refine Wt.quiet rfl (Wq.moveE (by conv => { lhs; whnf }) (Wq.nil ?_)) | refine Wt.quiet rfl (Wq.nilP rfl (Wq.nil ?_)) | refine Wt.quiet rfl (Wq.fieldAddr rfl rfl (Wq.nil ?_))))
  refine Wt.quiet rfl (Wq.load1 rfl (fun w' c => (bk w' c).cell (o := 1) rfl) (Wq.nil ?_))
  refine Wt.quiet rfl (Wq.loadAt (fun w' c => (bx w' c).at) rfl rfl (Wq.nil ?_))
  have h3 := h2.new n3
  refine Wt.chain rfl (Wl.buildSlice1 (R := rEv) (Pe := fun _ => False) (y := x) goodEv rfl rfl rfl rfl (by omega) (by omega) fun v4 w4 o4 n4 s4 e4 => ?_)
  have n34 := n3.trans n4
  have h4 := h3.new n4
  refine Wl.nil ⟨rfl, n34.any, ?_⟩
  refine Wt.chain rfl (Wl.appendAll (R := rEv) goodEv h4.own (o4.rd goodEv.mo) (fun y cs hy => hy) rfl rfl (by omega) (by simp only [maxLen, List.length_singleton]; omega) (by simp only [List.length_singleton]; omega) fun v5 w5 o5 c5 lie _ => ?_)
  have c25 : Chg (fun k => v.ownBlock = some k) w2 w5 := Chg.trans n34.any c5 fun k _ e => e
  refine Wl.nil ⟨rfl, c25, ?_⟩
  have bk5 := bk w5 c25
  (repeat' (first | refine Wt.quiet rfl (Wq.nilP rfl (Wq.nil ?_)) | refine Wt.quiet rfl (Wq.fieldAddr rfl rfl (Wq.nil ?_))))
  refine Wt.last rfl (Wl.store1 bk5 rfl (by simp) rfl (by obtain ⟨_, _, rfl, _⟩ := o5.form; rfl) fun w6 b6 c6 => ?_)
  have s24 := n34.size
  have s5 := c5.size
  have hv5 : ∀ k, v5.ownBlock = some k → k ≠ b := by
    intro k hk
    rcases lie with lie | lie
    · rw [lie] at hk; exact fun e => hne (e ▸ hk)
    · have := lie k hk; omega
  have c26 : Chg (fun k => v.ownBlock = some k ∨ k = b) w2 w6 := Chg.trans (c25.mono fun _ _ e => .inl e) c6 fun _ _ e => .inr e
  have cf : Chg Pb w w6 := Chg.trans n02.any c26 fun k hk e => by
    rcases e with e | rfl
    · exact (hvlt k e).1
    · exact h2.hb
  (repeat' (first | refine Wl.nil ?_ | refine Qseq.normal ?_ | refine Wc.ret ?_ | refine Qseq.ret ?_))
  refine Qfn.ret0 rfl ⟨_, rfl, ⟨v5, .inl h2.hb, b6, ?_, fun e => hv5 b e rfl, by rw [List.length_append, List.length_singleton]; omega, hs, by rw [List.length_append, List.length_singleton]; omega⟩, cf⟩
  exact (o5.chg (plain_flat _) c6 fun k hk e => hv5 k hk e).mono goodEv.mo (fun k _ hk => by rcases hk with hk | hk; exact .inl hk; exact .inr (by omega)) fun _ _ e => e
end
/-- What has been read so far. -/
structure ChR (n : Nat) (ls : List (List UInt8)) (gone i : Nat) (ks : List Ev) : Prop where
  len : ks.length = i
  lin : ks.map lineM = ls.take i
  evl : ∀ e ∈ ks, EvL e
  ids : ∀ (j : Nat) (e : Ev), ks[j]? = some e → e.id = gone + j + 1
  tms : ∀ (j : Nat) (e f : Ev), ks[j]? = some e → ks[j + 1]? = some f → e.tm ≤ f.tm
  zero : i = 0 → gone = 0
  full : 0 < gone → ls.length = n
theorem ChR.same {n gone i : Nat} {ls : List (List UInt8)} {ks : List Ev} (h : ChR n ls gone i ks) {t : Tr} (ht : TrOk t) (hl : linesM t = ls) {j : Nat} {e f : Ev} (he : ks[j]? = some e) (hf : t.kept[j]? = some f) : e = f := by
  have h1 : (ks.map lineM)[j]? = some (lineM e) := by rw [List.getElem?_map, he]; rfl
  have h2 : ls[j]? = some (lineM f) := by rw [← hl]; unfold linesM; rw [List.getElem?_map, hf]; rfl
  have hj := (List.getElem?_eq_some_iff.1 he).1
  rw [h.lin, List.getElem?_take, if_pos (by have := h.len; omega), h2] at h1
  exact line_inj (h.evl e (List.mem_of_getElem? he)) (ht.evl (List.mem_of_getElem? hf)) (Option.some.inj h1).symm
/-- What stands in the way of the next line. -/
theorem ChR.step {n gone i : Nat} {ls : List (List UInt8)} {ks : List Ev} (h : ChR n ls gone i ks) {t : Tr} (ht : TrOk t) (hn : t.size = n) (hl : linesM t = ls) {s : List UInt8} (hs : ls[i]? = some s) :
    ∃ f, EvL f ∧ lineM f = s ∧ (0 < i → f.id = gone + i + 1 ∧ ∀ e, ks[i - 1]? = some e → e.tm ≤ f.tm) ∧ (i = 0 → 1 < f.id → ls.length = n) := by
  have hlen : t.kept.length = ls.length := by rw [← hl]; simp [linesM]
  have hi := (List.getElem?_eq_some_iff.1 hs).1
  obtain ⟨f, hf⟩ := get_lt t.kept (k := i) (by omega)
  have hfs : lineM f = s := by
    rw [← hl] at hs
    unfold linesM at hs
    rw [List.getElem?_map, hf] at hs
    exact Option.some.inj hs
  have hfi := ht.ids i f hf
  refine ⟨f, ht.evl (List.mem_of_getElem? hf), hfs, fun h0 => ?_, fun h0 h1 => ?_⟩
  · obtain ⟨e0, he0⟩ := get_lt ks (k := 0) (by have := h.len; omega)
    obtain ⟨f0, hf0⟩ := get_lt t.kept (k := 0) (by omega)
    have hs0 := h.same ht hl he0 hf0
    have i0 := h.ids 0 e0 he0
    have j0 := ht.ids 0 f0 hf0
    subst hs0
    refine ⟨by omega, fun e he => ?_⟩
    obtain ⟨g, hg⟩ := get_lt t.kept (k := i - 1) (by omega)
    rw [h.same ht hl he hg]
    exact ht.tms (i - 1) g f hg (by rw [show i - 1 + 1 = i by omega]; exact hf)
  · have := ht.full (by omega)
    omega
theorem ChR.done {n gone : Nat} {ls : List (List UInt8)} {ks : List Ev} (h : ChR n ls gone ls.length ks) (h0 : 1 ≤ n) (h1 : n ≤ 4096) (hl : ls.length ≤ n) : TrOk ⟨n, gone, ks⟩ ∧ linesM ⟨n, gone, ks⟩ = ls := by
  have hlen := h.len
  refine ⟨⟨h0, h1, by show ks.length ≤ n; omega, fun e => (by show ks.length = n; have := h.full e; omega), ?_, h.ids, fun e he => (h.evl e he).c, fun e he => ⟨(h.evl e he).w, (h.evl e he).k, (h.evl e he).p⟩, h.tms⟩, ?_⟩
  · unfold Tr.last
    dsimp only
    rcases Nat.eq_zero_or_pos ks.length with hz | hz
    · have := h.zero (by omega); omega
    · obtain ⟨e, he⟩ := get_lt ks (k := ks.length - 1) (by omega)
      have h2 := h.ids _ e he
      have h3 := (h.evl e (List.mem_of_getElem? he)).i1
      omega
  · show ks.map lineM = ls
    rw [h.lin, List.take_length]
end Go.Proofs.YtjaendlcijmifaaGreatDoor

namespace Go.Proofs.YtjaendlcijmifaaGreatDoor
open Go Wk
open Go.RowKit (Below)
attribute [local irreducible] Go.Calls

def readE (n : Int) : Int := if n < 1 ∨ 4096 < n then 1 else 4
theorem lastW_q {Pb : Nat → Prop} {b size gone : Nat} {v : Value} {ring : List Ev} {W : World} (h : RgW Pb W b size gone v ring) : ∀ w', New W w' → Calls Tryz.prog 22 ([pT b] : List Value).toArray w' (fun e w'' => e = .returned (.int .u64 (gone + ring.length : Nat)) ∧ New W w'') := by
  intro w' n
  refine (lastW_spec (h.new n)).mono ?_
  rintro e w'' ⟨v, rfl, rfl, n2⟩
  exact ⟨rfl, n.trans n2⟩
theorem RgW.mono {Pb Pb' : Nat → Prop} {w : World} {b size gone : Nat} {v : Value} {ring : List Ev} (h : RgW Pb w b size gone v ring) (hP : ∀ k, k < w.heap.size → Pb k → Pb' k) : RgW Pb' w b size gone v ring :=
  ⟨hP b h.bk.lt h.hb, h.bk, h.own.mono goodEv.mo hP (fun _ _ e => e), h.ne, h.len, h.s1, h.last⟩
theorem ChR.next {n gone g i : Nat} {ls : List (List UInt8)} {ks : List Ev} (h : ChR n ls gone i ks) {s : List UInt8} {y : Ev} (hs : ls[i]? = some s) (hy : EvL y) (hys : lineM y = s) (h1 : y.id = g + i + 1) (h2 : 0 < i → g = gone)
    (h3 : i = 0 → 0 < g → ls.length = n) (h4 : 0 < i → ∀ e, ks[i - 1]? = some e → e.tm ≤ y.tm) : ChR n ls g (i + 1) (ks ++ [y]) := by
  have hl := h.len
  refine ⟨by rw [List.length_append, List.length_singleton, hl], ?_, fun e he => ?_, fun j e he => ?_, fun j e f he hf => ?_, fun e => by omega, fun h0 => ?_⟩
  · rw [List.map_append, h.lin, take_snoc' hs, ← hys]; rfl
  · rcases List.mem_append.1 he with he | he
    · exact h.evl e he
    · rw [List.mem_singleton.1 he]; exact hy
  · rcases Nat.lt_or_ge j ks.length with hj | hj
    · rw [List.getElem?_append_left hj] at he
      rw [h2 (by omega)]; exact h.ids j e he
    · have := (List.getElem?_eq_some_iff.1 he).1
      rw [List.length_append, List.length_singleton] at this
      have ej : j = ks.length := by omega
      subst ej
      rw [List.getElem?_append_right (Nat.le_refl _), Nat.sub_self] at he
      cases he
      omega
  · have hj2 := (List.getElem?_eq_some_iff.1 hf).1
    rw [List.length_append, List.length_singleton] at hj2
    rw [List.getElem?_append_left (by omega)] at he
    rcases Nat.lt_or_ge (j + 1) ks.length with hj | hj
    · rw [List.getElem?_append_left hj] at hf
      exact h.tms j e f he hf
    · have ej : j + 1 = ks.length := by omega
      rw [ej, List.getElem?_append_right (Nat.le_refl _), Nat.sub_self] at hf
      cases hf
      exact h4 (by omega) e (by rw [show i - 1 = j by omega]; exact he)
  · rcases Nat.eq_zero_or_pos i with hi | hi
    · exact h3 hi h0
    · exact h.full (h2 hi ▸ h0)
set_option maxRecDepth 4000 in
set_option maxHeartbeats 4000000 in
theorem Read_spec {Pb : Nat → Prop} {w : World} {v : Value} {ls : List (List UInt8)} {n : Int} (ht : Tb w) (hE : ErrV w) (h : RdS (Wk.one vs) 1 Pb w v ls) (hls : ∀ s ∈ ls, s.length ≤ 10000000) (hlen : ls.length ≤ 10000000) :
    Calls Tryz.prog 17 #[v, vi n] w (Ret fun r w' => ((r = .tuple #[.pointer none, vi (readE n)] ∧ ∀ t, TrOk t → (t.size : Int) = n → linesM t ≠ ls) ∨ (∃ b t, r = .tuple #[pT b, vi 0] ∧ TrOk t ∧ (t.size : Int) = n ∧ linesM t = ls ∧ Rg (fun k => w.heap.size ≤ k) w' b t)) ∧ New w w') := by
  obtain ⟨a, cp, rfl, hc1, hc2⟩ := h.form
  simp only [maxLen] at hc2
  refine calls_of_Wc Tryz.func17 rfl Tryz.ntmps17 rfl ?_
  (repeat' (first | refine Wl.moveE (by conv => { lhs; whnf }) ?_ | refine Wl.assignE (by conv => { lhs; whnf }) ?_ | refine Wl.nil ?_ | refine Qseq.normal ?_ | refine Wc.seq ?_ | refine Wc.region ?_))
  refine Wl.call (New_spec (n := n)) rfl ?_
  rintro r w1 ⟨hr, n1⟩
  rcases hr with ⟨hr, rfl, rfl⟩ | ⟨hn0, hn1, b, rfl, rg⟩
  · (repeat' (first | refine Wl.moveE (by conv => { lhs; whnf }) ?_ | refine Wl.assignE (by conv => { lhs; whnf }) ?_ | refine Wl.nil ?_ | refine Wl.extract rfl rfl ?_ | refine Qseq.normal ?_ | refine Wc.seq ?_ | refine Wc.region ?_ | refine Wc.ret ?_ | refine Qseq.ret ?_ | refine Wc.condT rfl ?_ | (refine Wl.neq rfl rfl (fun _ => ?_) (fun _ => ?_) <;> (first | (exfalso; omega) | skip))))
    refine Qfn.ret2 rfl rfl rfl ⟨_, rfl, .inl ⟨?_, fun t htk hn => ?_⟩, n1⟩
    · unfold readE; rw [if_pos hr]; rfl
    · have := htk.s0
      have := htk.s1
      omega
  obtain ⟨N, rfl⟩ : ∃ N : Nat, n = (N : Int) := ⟨n.toNat, by omega⟩
  have hre : readE (N : Int) = 4 := if_neg (by omega)
  rw [Int.toNat_natCast] at rg
  obtain ⟨v1, ring, old, rg⟩ := rg
  have hkp := rg.kp
  have hro : ring.length = 0 := by have := rg.len; exact this.symm
  have hr0 : ring = [] := List.eq_nil_of_length_eq_zero hro
  subst hr0
  have ho0 : old = 0 := by have := rg.lt; simp at this; exact this
  subst ho0
  have rw1 : RgW (fun k => w.heap.size ≤ k) w1 b N 0 v1 [] := ⟨rg.hb, rg.bk, rg.own, rg.ne, Nat.zero_le _, by omega, by simp⟩
  clear rg hkp hro
  have z1 := n1.size
  (repeat' (first | refine Wl.moveE (by conv => { lhs; whnf }) ?_ | refine Wl.assignE (by conv => { lhs; whnf }) ?_ | refine Wl.nil ?_ | refine Wl.extract rfl rfl ?_ | refine Wl.lenS rfl ?_ | refine Qseq.normal ?_ | refine Wc.seq ?_ | refine Wc.region ?_ | refine Wc.block ?_ | refine Wc.skip ?_ | refine Wc.ret ?_ | refine Qseq.ret ?_ | refine Wc.condT rfl ?_ | refine Wc.condF rfl ?_ | refine Wl.gtr rfl rfl (fun _ => ?_) (fun _ => ?_) | (refine Wl.neq rfl rfl (fun _ => ?_) (fun _ => ?_) <;> (first | (exfalso; omega) | skip))))
  · refine Qfn.ret2 rfl rfl rfl ⟨_, rfl, .inl ⟨by rw [hre]; rfl, fun t htk hn hl => ?_⟩, n1⟩
    have h1 := congrArg List.length hl
    unfold linesM at h1
    rw [List.length_map] at h1
    have := htk.len
    omega
  have hle : ls.length ≤ N := by omega
  refine Wc.loop (σ := Nat) (fun i => [(0, .slice a ls.length cp), (1, vi N), (6, pT b), (24, .slice a ls.length cp), (25, vi ls.length), (26, vi i)]) (fun i W => i ≤ ls.length ∧ New w W ∧ ∃ gone vr ks, RgW (fun k => w.heap.size ≤ k) W b N gone vr ks ∧ ChR N ls gone i ks) (fun i => ls.length - i) 0 ⟨rfl, rfl, rfl, rfl, rfl, rfl, trivial⟩
    ⟨Nat.zero_le _, n1, 0, v1, [], rw1, ⟨rfl, by simp, fun e he => (by simp at he), fun j e he => (by simp at he), fun j e f he => (by simp at he), fun _ => rfl, fun e => absurd e (Nat.lt_irrefl _)⟩⟩ ?_
  clear rw1 n1
  rintro i G W ⟨hi, nW, gone, vr, ks, rg, ch⟩
  simp only [upds]
  have zW := nW.size
  have hksl := ch.len
  (repeat' (first | refine Wl.moveE (by conv => { lhs; whnf }) ?_ | refine Wl.assignE (by conv => { lhs; whnf }) ?_ | refine Wl.nil ?_ | refine Qseq.normal ?_ | refine Wc.seq ?_ | refine Wc.region ?_ | refine Wc.block ?_ | refine Wc.skip ?_ | refine Wc.exit ?_ | refine Wc.ret ?_ | refine Qseq.exit ?_ | refine Qblk.hit ?_ | refine Qloop.exit ?_ | refine Wc.condT rfl ?_ | refine Wc.condF rfl ?_ | refine Wl.lss rfl rfl (fun _ => ?_) (fun _ => ?_)))
  · obtain ⟨s, hs⟩ := get_lt ls (k := i) (by omega)
    have hsl := hls s (List.mem_of_getElem? hs)
    refine Wl.idxAddrV (h.keep (stable_one _) nW.keep) rfl rfl (by omega) (by rw [Int.toNat_natCast]; exact hs) fun bb o hc => ?_
    refine Wl.load1 rfl hc ?_
    (repeat' (first | refine Wl.moveE (by conv => { lhs; whnf }) ?_ | refine Wl.assignE (by conv => { lhs; whnf }) ?_ | refine Wl.nil ?_ | refine Qseq.normal ?_ | refine Wc.seq ?_ | refine Wc.region ?_))
    refine Wl.call (event_spec (ht.new nW) (hE.new nW) hsl) rfl ?_
    rintro _ W1 ⟨⟨y, q, rfl, hqt, hqf⟩, m1⟩
    (repeat' (first | refine Wl.moveE (by conv => { lhs; whnf }) ?_ | refine Wl.extract rfl rfl ?_))
    refine Wl.alloc fun W2 b2 m2 s2 => ?_
    refine Wl.storeB (o := 0) (new := evC y) b2 rfl rfl rfl rfl (Nat.le_refl 6) (evC_one _) fun W3 b3 c3 s3 => ?_
    replace b3 : Bk W3 W1.heap.size 27 (evC y) := b3
    have m13 : New W1 W3 := Chg.trans m2 c3 fun _ _ e => by omega
    have m03 := m1.trans m13
    have rg3 := rg.new m03
    have n3 := nW.trans m03
    have zm := m1.size
    have hbW := rg.bk.lt
    clear b2 m2 c3 s2 s3 m1 m13 m03 rg nW hc
    have stop : (∀ t : Tr, TrOk t → (t.size : Int) = (N : Int) → linesM t = ls → False) → ∀ F W', F 4 = .pointer none → F 5 = vi 4 → New W3 W' → Qfn Tryz.prog 92 Tryz.f17 (Ret fun r w' => ((r = .tuple #[.pointer none, vi (readE (N : Int))] ∧ ∀ t, TrOk t → (t.size : Int) = (N : Int) → linesM t ≠ ls) ∨ (∃ b t, r = .tuple #[pT b, vi 0] ∧ TrOk t ∧ (t.size : Int) = (N : Int) ∧ linesM t = ls ∧ Rg (fun k => w.heap.size ≤ k) w' b t)) ∧ New w w') .ret F W' := fun hno F W' h4 h5 m =>
      Qfn.ret2 (t := 4) (u := 5) rfl rfl rfl ⟨_, rfl, .inl ⟨by rw [h4, h5, hre], fun t h1 h2 h3 => hno t h1 h2 h3⟩, n3.trans m⟩
    have hid : q = true → y.id < 18446744073709551616 := fun e => by have := (hqt e).1.i1; omega
    (repeat' (first | refine Wl.assignE (by conv => { lhs; whnf }) ?_ | refine Wl.nil ?_ | refine Qseq.normal ?_))
    refine Wc.cutR (fun F W' => agrees F [(0, .slice a ls.length cp), (1, vi N), (6, pT b), (8, vi i), (10, pT W1.heap.size), (24, .slice a ls.length cp), (25, vi ls.length), (26, vi i)] ∧ New W3 W' ∧ EvL y ∧ lineM y = s ∧ (0 < i → y.id = gone + i + 1 ∧ ∀ e, ks[i - 1]? = some e → e.tm ≤ y.tm) ∧ (i = 0 → 1 < y.id → ls.length = N)) ?_ ?_
    · (repeat' (refine Wc.seq ?_))
      refine Wc.regionN rfl (by kernel_rfl) ?_
      cases q with
      | false =>
        (repeat' (first | refine Wq.moveE (by conv => { lhs; whnf }) ?_ | refine Wq.nil ?_ | refine Wq.guardN rfl rfl ?_ | refine Wq.guardU rfl ?_ | refine Wq.pickTE rfl (by conv => { lhs; whnf }) ?_ | refine Wq.notB rfl ?_))
        intro W4 n4
        (repeat' (first | refine Wl.assignE (by conv => { lhs; whnf }) ?_ | refine Wl.nil ?_ | refine Qseq.normal ?_ | refine Wc.seq ?_ | refine Wc.region ?_ | refine Wc.ret ?_ | refine Qseq.ret ?_ | refine Qblk.ret ?_ | refine Qloop.ret ?_ | refine Wc.condT rfl ?_ | refine Qm.ret ?_))
        refine stop (fun t h1 h2 h3 => ?_) _ _ rfl rfl n4
        obtain ⟨f, hf, hfs, _⟩ := ch.step h1 (by omega) h3 hs
        exact hqf rfl f hf hfs
      | true =>
        obtain ⟨hy, hys⟩ := hqt rfl
        rcases Nat.eq_zero_or_pos i with hi0 | hi0
        · subst hi0
          (repeat' (first | refine Wq.moveE (by conv => { lhs; whnf }) ?_ | refine Wq.guardY rfl rfl ?_ | refine Wq.guardN rfl rfl ?_ | refine Wq.guardU rfl ?_ | refine Wq.pickFE rfl (by conv => { lhs; whnf }) ?_ | refine Wq.notB rfl ?_ | refine Wq.fieldAddr rfl rfl ?_ | (refine Wq.gtr rfl rfl (fun _ => ?_) (fun _ => ?_) <;> (first | (exfalso; omega) | skip)) | (refine Wq.eql rfl rfl (fun _ => ?_) (fun _ => ?_) <;> (first | (exfalso; omega) | skip))))
          refine Wq.load1 (u := .int .u64 y.id) rfl (fun w' n => (b3.chg n (fun e => e)).cell (o := 0) rfl) ?_
          (repeat' (first | refine Wq.moveE (by conv => { lhs; whnf }) ?_ | refine Wq.nil ?_ | refine Wq.guardY rfl rfl ?_ | refine Wq.guardN rfl rfl ?_ | refine Wq.pickTE rfl (by conv => { lhs; whnf }) ?_ | refine Wq.pickFE rfl (by conv => { lhs; whnf }) ?_ | refine Wq.lenS rfl ?_ | refine Wq.lss rfl rfl (fun _ => ?_) (fun _ => ?_) | refine Wq.gtr rfl rfl (fun _ => ?_) (fun _ => ?_)))
          · intro W4 n4
            (repeat' (first | refine Wl.assignE (by conv => { lhs; whnf }) ?_ | refine Wl.nil ?_ | refine Qseq.normal ?_ | refine Wc.seq ?_ | refine Wc.region ?_ | refine Wc.ret ?_ | refine Qseq.ret ?_ | refine Qblk.ret ?_ | refine Qloop.ret ?_ | refine Wc.condT rfl ?_ | refine Qm.ret ?_))
            refine stop (fun t h1 h2 h3 => ?_) _ _ rfl rfl n4
            obtain ⟨f, hf, hfs, _, hf0⟩ := ch.step h1 (by omega) h3 hs
            have e := line_inj hf hy (hfs.trans hys.symm)
            subst e
            have := hf0 rfl (by omega)
            omega
          · intro W4 n4
            (repeat' (first | refine Qseq.normal ?_ | refine Wc.skip ?_ | refine Wc.condF rfl ?_))
            exact Qm.normal ⟨⟨rfl, rfl, rfl, rfl, rfl, rfl, rfl, rfl, trivial⟩, n4, hy, hys, fun h => absurd h (Nat.lt_irrefl _), fun _ _ => by omega⟩
          · intro W4 n4
            (repeat' (first | refine Qseq.normal ?_ | refine Wc.skip ?_ | refine Wc.condF rfl ?_))
            exact Qm.normal ⟨⟨rfl, rfl, rfl, rfl, rfl, rfl, rfl, rfl, trivial⟩, n4, hy, hys, fun h => absurd h (Nat.lt_irrefl _), fun _ h => by omega⟩
        · (repeat' (first | refine Wq.moveE (by conv => { lhs; whnf }) ?_ | refine Wq.guardY rfl rfl ?_ | refine Wq.notB rfl ?_ | refine Wq.fieldAddr rfl rfl ?_ | (refine Wq.gtr rfl rfl (fun _ => ?_) (fun _ => ?_) <;> (first | (exfalso; omega) | skip))))
          refine Wq.load1 (u := .int .u64 y.id) rfl (fun w' n => (b3.chg n (fun e => e)).cell (o := 0) rfl) ?_
          (repeat' (first | refine Wq.moveE (by conv => { lhs; whnf }) ?_ | refine Wq.guardY rfl rfl ?_))
          refine Wq.call (lastW_q rg3) rfl ?_
          (repeat' (refine Wq.guardY rfl rfl ?_))
          refine Wq.addW rfl rfl ?_
          have hl3 := rg3.last
          rw [wu (by omega) (by omega)]
          (repeat' (first | refine Wq.moveE (by conv => { lhs; whnf }) ?_ | refine Wq.nil ?_ | refine Wq.guardY rfl rfl ?_ | refine Wq.guardN rfl rfl ?_ | refine Wq.guardU rfl ?_ | refine Wq.pickTE rfl (by conv => { lhs; whnf }) ?_ | refine Wq.pickFE rfl (by conv => { lhs; whnf }) ?_ | refine Wq.fieldAddr rfl rfl ?_ | refine Wq.neq rfl rfl (fun _ => ?_) (fun _ => ?_)))
          · intro W4 n4
            (repeat' (first | refine Wl.assignE (by conv => { lhs; whnf }) ?_ | refine Wl.nil ?_ | refine Qseq.normal ?_ | refine Wc.seq ?_ | refine Wc.region ?_ | refine Wc.ret ?_ | refine Qseq.ret ?_ | refine Qblk.ret ?_ | refine Qloop.ret ?_ | refine Wc.condT rfl ?_ | refine Qm.ret ?_))
            refine stop (fun t h1 h2 h3 => ?_) _ _ rfl rfl n4
            obtain ⟨f, hf, hfs, hf0, _⟩ := ch.step h1 (by omega) h3 hs
            have e := line_inj hf hy (hfs.trans hys.symm)
            subst e
            have := (hf0 hi0).1
            omega
          refine Wq.load1 (u := vi y.tm) rfl (fun w' n => (b3.chg n (fun e => e)).cell (o := 2) rfl) ?_
          (repeat' (first | refine Wq.moveE (by conv => { lhs; whnf }) ?_ | refine Wq.guardY rfl rfl ?_ | refine Wq.nilP rfl ?_ | refine Wq.fieldAddr rfl rfl ?_))
          refine Wq.load1 rfl (fun w' n => (rg3.new n).bk.cell (o := 1) rfl) ?_
          (repeat' (first | refine Wq.moveE (by conv => { lhs; whnf }) ?_ | refine Wq.guardY rfl rfl ?_ | refine Wq.sub rfl rfl (by omega) (by omega) ?_))
          obtain ⟨x, hx⟩ := get_lt ks (k := i - 1) (by omega)
          refine Wq.idxAddr (rg3.own.rd goodEv.mo) (fun w' n => n.keep) rfl rfl (by omega) (by rw [show ((i : Int) - 1).toNat = i - 1 by omega]; exact hx) fun bb o cs hcl hR hat => ?_
          obtain rfl : cs = evC x := hR
          (repeat' (first | refine Wq.guardY rfl rfl ?_ | refine Wq.fieldAddr rfl rfl ?_))
          refine Wq.load1 (u := vi x.tm) rfl (fun w' n => (hat w' n).get 2 rfl) ?_
          (repeat' (first | refine Wq.moveE (by conv => { lhs; whnf }) ?_ | refine Wq.nil ?_ | refine Wq.guardY rfl rfl ?_ | refine Wq.guardN rfl rfl ?_ | refine Wq.guardU rfl ?_ | refine Wq.pickTE rfl (by conv => { lhs; whnf }) ?_ | refine Wq.pickFE rfl (by conv => { lhs; whnf }) ?_ | refine Wq.lss rfl rfl (fun _ => ?_) (fun _ => ?_) | (refine Wq.eql rfl rfl (fun _ => ?_) (fun _ => ?_) <;> (first | (exfalso; omega) | skip))))
          · intro W4 n4
            (repeat' (first | refine Wl.assignE (by conv => { lhs; whnf }) ?_ | refine Wl.nil ?_ | refine Qseq.normal ?_ | refine Wc.seq ?_ | refine Wc.region ?_ | refine Wc.ret ?_ | refine Qseq.ret ?_ | refine Qblk.ret ?_ | refine Qloop.ret ?_ | refine Wc.condT rfl ?_ | refine Qm.ret ?_))
            refine stop (fun t h1 h2 h3 => ?_) _ _ rfl rfl n4
            obtain ⟨f, hf, hfs, hf0, _⟩ := ch.step h1 (by omega) h3 hs
            have e := line_inj hf hy (hfs.trans hys.symm)
            subst e
            have := (hf0 hi0).2 x hx
            omega
          · intro W4 n4
            (repeat' (first | refine Qseq.normal ?_ | refine Wc.skip ?_ | refine Wc.condF rfl ?_))
            exact Qm.normal ⟨⟨rfl, rfl, rfl, rfl, rfl, rfl, rfl, rfl, trivial⟩, n4, hy, hys, fun _ => ⟨by omega, fun e he => by cases hx.symm.trans he; omega⟩, fun h => by omega⟩
    · rintro F4 W4 ⟨ag, n4, hy, hys, hA, hB⟩
      refine Wc.frame _ ag fun G4 => ?_
      simp only [upds]
      have rg4 := rg3.new n4
      have b4 := b3.chg n4 (fun e => e)
      have n04 := n3.trans n4
      have z4 := n04.size
      have hyi := hy.i1
      have hyi0 := hy.i0
      clear stop hqt hqf hid rg3 b3 n3 n4 ag
      refine Wk.Wc.cutW [(0, .slice a ls.length cp), (1, vi N), (6, pT b), (8, vi i), (10, pT W1.heap.size), (24, .slice a ls.length cp), (25, vi ls.length), (26, vi i)] (fun W => New w W ∧ ∃ g, RgW (fun k => w.heap.size ≤ k) W b N g vr ks ∧ y.id = g + i + 1 ∧ (0 < i → g = gone) ∧ (i = 0 → 0 < g → ls.length = N) ∧ Bk W W1.heap.size 27 (evC y)) ?_ ?_
      · (repeat' (first | refine Wl.moveE (by conv => { lhs; whnf }) ?_ | refine Wl.nil ?_ | refine Qseq.normal ?_ | refine Wc.seq ?_ | refine Wc.region ?_ | refine Wc.skip ?_ | refine Wc.condT rfl ?_ | refine Wc.condF rfl ?_ | refine Wl.fieldAddr rfl rfl ?_ | refine Wl.eql rfl rfl (fun _ => ?_) (fun _ => ?_)))
        · refine Wl.load1 (u := .int .u64 y.id) rfl (b4.cell (o := 0) rfl) ?_
          skip
          refine Wl.subW rfl rfl ?_
          rw [show ((y.id : Nat) : Int) - 1 = ((y.id - 1 : Nat) : Int) by omega, wu (by omega) (by omega)]
          (repeat' (first | refine Wl.nilP rfl ?_ | refine Wl.fieldAddr rfl rfl ?_))
          refine Wl.store1 rg4.bk rfl (by simp) rfl rfl fun W5 b5 c5 => ?_
          have hb4 := rg4.hb
          have hne4 := rg4.ne
          have hln := rg4.len
          (repeat' (refine Wl.nil ?_))
          exact ⟨rfl, ⟨rfl, rfl, rfl, rfl, rfl, rfl, rfl, rfl, trivial⟩, Chg.trans n04 c5 fun k hk e => by omega, y.id - 1, ⟨hb4, b5, rg4.own.chg (plain_flat _) c5 fun k hk e => hne4 (e ▸ hk), hne4, hln, rg4.s1, by omega⟩, by omega, fun h => by omega, fun h h' => hB h (by omega), b4.chg c5 (by omega)⟩
        · exact ⟨rfl, ⟨rfl, rfl, rfl, rfl, rfl, rfl, rfl, rfl, trivial⟩, n04, gone, rg4, (hA (by omega)).1, fun _ => rfl, fun h => by omega, b4⟩
      rintro G5 W5 ⟨n05, g, rg5, hg1, hg2, hg3, b5⟩
      simp only [upds]
      clear rg4 b4 n04
      have z5 := n05.size
      (repeat' (first | refine Wl.moveE (by conv => { lhs; whnf }) ?_ | refine Wc.region ?_))
      refine Wl.loadAt b5.at rfl rfl ?_
      skip
      refine Wl.call (putW_spec (x := y) rg5 (by omega) (by omega)) rfl ?_
      rintro _ W6 ⟨⟨v6, rg6⟩, c6⟩
      have n06 : New w W6 := Chg.trans n05 c6 fun k hk e => by omega
      (repeat' (first | refine Wl.moveE (by conv => { lhs; whnf }) ?_ | refine Wl.nil ?_ | refine Qseq.normal ?_ | refine Wc.region ?_ | refine Qblk.normal ?_ | refine Wl.add rfl rfl (by omega) (by omega) ?_))
      exact Qloop.normal (i + 1) ⟨rfl, rfl, rfl, rfl, rfl, rfl, trivial⟩ ⟨by omega, n06, g, v6, ks ++ [y], rg6.mono (fun k _ hk => by rcases hk with hk | hk <;> omega), ch.next hs hy hys hg1 hg2 hg3 fun h => (hA h).2⟩ (by omega)
  · have e : i = ls.length := by omega
    subst e
    obtain ⟨h1, h2⟩ := ch.done (by omega) (by omega) hle
    exact Qfn.ret2 rfl rfl rfl ⟨_, rfl, .inr ⟨b, ⟨N, gone, ks⟩, rfl, h1, rfl, h2, vr, ks, 0, h1, rg.hb, rg.bk, rg.own, rg.ne, by simp, .inr rfl, fun _ => rfl⟩, nW⟩
end Go.Proofs.YtjaendlcijmifaaGreatDoor

namespace Go.Proofs.YtjaendlcijmifaaGreatDoor
open Go Wk
open Go.RowKit (Below)
attribute [local irreducible] Go.Calls

theorem nat_dig {u : Nat} (h : u < 10) : decN u = [UInt8.ofNat (48 + u)] := Lib.decDigits_one h
theorem nat_dig2 {u : Nat} (h1 : ¬ u < 10) (h2 : u < 100) : decN u = [UInt8.ofNat (48 + u / 10), UInt8.ofNat (48 + u % 10)] := Lib.decDigits_two h1 h2
theorem int_dig (u : Nat) : decI (u : Int) = decN u := Lib.itoa_nonneg u
def aw1 : Tr := ⟨3, 0, [⟨1, 0, 10, 1, [47, 97], 0⟩]⟩
def aw2 : Tr := ⟨3, 0, [⟨1, 0, 10, 1, [47, 97], 0⟩, ⟨2, 1, 12, 3, [47, 97], 5⟩]⟩
theorem pathA : pathM [47, 97] = true := by decide
theorem aw1_add : (⟨3, 0, []⟩ : Tr).add 0 10 1 [47, 97] 0 = (1, 0, aw1) := by
  unfold Tr.add
  rw [if_neg (by simp [Tr.last, pathA]; decide), if_neg (by simp [Tr.last])]
  rfl
theorem aw2_add : aw1.add 1 12 3 [47, 97] 5 = (2, 0, aw2) := by
  unfold Tr.add
  rw [if_neg (by simp [Tr.last, aw1, pathA]; decide), if_neg (by simp [Tr.last, aw1])]
  rfl
theorem aw_lines : linesM aw2 = [[49, 32, 49, 48, 32, 98, 105, 110, 100, 32, 47, 97, 32, 48], [50, 32, 49, 50, 32, 111, 110, 32, 47, 97, 32, 53, 32, 98, 121, 32, 49]] := by
  have e0 : decI 0 = [48] := (int_dig 0).trans (nat_dig (by omega))
  have e5 : decI 5 = [53] := (int_dig 5).trans (nat_dig (by omega))
  have e10 : decI 10 = [49, 48] := (int_dig 10).trans (nat_dig2 (by omega) (by omega))
  have e12 : decI 12 = [49, 50] := (int_dig 12).trans (nat_dig2 (by omega) (by omega))
  have d1 : decN 1 = [49] := nat_dig (by omega)
  have d2 : decN 2 = [50] := nat_dig (by omega)
  simp only [linesM, aw2, List.map_cons, List.map_nil, lineM, lineH, e0, e5, e10, e12, d1, d2]
  rfl
set_option maxHeartbeats 1000000 in
theorem awake_spec {w : World} (ht : Tb w) : Calls Tryz.prog 8 #[] w (Ret fun r w' => r = .bool true ∧ New w w') := by
  refine calls_of_Wc Tryz.func8 rfl Tryz.ntmps8 rfl ?_
  (repeat' (first | refine Wl.assignE (by conv => { lhs; whnf }) ?_ | refine Wl.nil ?_ | refine Qseq.normal ?_ | refine Wc.seq ?_ | refine Wc.region ?_))
  refine Wl.call (New_spec (n := 3)) rfl ?_
  rintro r w1 ⟨hr, n1⟩
  rcases hr with ⟨hr, _⟩ | ⟨_, _, b, rfl, h1⟩
  · omega
  have z1 := n1.size
  replace h1 : Rg (fun k => w.heap.size ≤ k) w1 b ⟨3, 0, []⟩ := h1
  (repeat' (first | refine Wl.moveE (by conv => { lhs; whnf }) ?_ | refine Wl.assignE (by conv => { lhs; whnf }) ?_ | refine Wl.nil ?_ | refine Wl.extract rfl rfl ?_ | refine Qseq.normal ?_ | refine Wc.seq ?_ | refine Wc.region ?_))
  refine Wl.call (Add_spec (ca := 0) (tm := 10) (kd := 1) (pa := [47, 97]) (ar := 0) h1 ⟨by omega, by omega, by omega, by omega, by omega, by omega⟩ (by simp)) rfl ?_
  rintro _ w2 ⟨rfl, h2, c2⟩
  rw [aw1_add] at h2 ⊢
  have n2 : New w w2 := Chg.trans n1 c2 fun k hk e => by omega
  have z2 := n2.size
  (repeat' (first | refine Wl.moveE (by conv => { lhs; whnf }) ?_ | refine Wl.assignE (by conv => { lhs; whnf }) ?_ | refine Wl.nil ?_ | refine Wl.extract rfl rfl ?_ | refine Qseq.normal ?_ | refine Wc.seq ?_ | refine Wc.region ?_))
  refine Wl.call (Add_spec (ca := 1) (tm := 12) (kd := 3) (pa := [47, 97]) (ar := 5) (h2.mono (Pb' := fun k => w.heap.size ≤ k) fun k _ e => by rcases e with e | e <;> omega) ⟨by omega, by omega, by omega, by omega, by omega, by omega⟩ (by simp)) rfl ?_
  rintro _ w3 ⟨rfl, h3, c3⟩
  rw [aw2_add] at h3 ⊢
  have n3 : New w w3 := Chg.trans n2 c3 fun k hk e => by omega
  have z3 := n3.size
  (repeat' (first | refine Wl.moveE (by conv => { lhs; whnf }) ?_ | refine Wl.assignE (by conv => { lhs; whnf }) ?_ | refine Wl.nil ?_ | refine Wl.extract rfl rfl ?_ | refine Wl.guardY rfl rfl ?_ | refine Wl.pickTE rfl (by conv => { lhs; whnf }) ?_ | refine Qseq.normal ?_ | refine Wc.seq ?_ | refine Wc.region ?_ | (refine Wl.eql rfl rfl (fun _ => ?_) (fun _ => ?_) <;> (first | (exfalso; omega) | (exfalso; contradiction) | skip))))
  refine Wl.call (Lines_spec (ht.new n3) h3) rfl ?_
  rintro l w4 ⟨o4, n4⟩
  rw [aw_lines] at o4
  have r4 := o4.rd goodS.mo
  (repeat' (refine Wl.guardY rfl rfl ?_))
  refine Wl.buildSliceN (R := Wk.one vs) (Pe := fun _ => True) (xs := [[49, 32, 49, 48, 32, 98, 105, 110, 100, 32, 47, 97, 32, 48], [50, 32, 49, 50, 32, 111, 110, 32, 47, 97, 32, 53, 32, 98, 121, 32, 49]]) (us := [vs [49, 32, 49, 48, 32, 98, 105, 110, 100, 32, 47, 97, 32, 48], vs [50, 32, 49, 50, 32, 111, 110, 32, 47, 97, 32, 53, 32, 98, 121, 32, 49]]) goodS rfl rfl ⟨rfl, rfl, rfl, rfl, trivial⟩ (by simp) (by simp) fun v5 w5 o5 n5 s5 e5 => ?_
  (repeat' (refine Wl.guardY rfl rfl ?_))
  refine Wl.call (texts_spec (r4.keep (stable_one _) n5.keep) (o5.rd goodS.mo)) rfl ?_
  rintro _ w6 ⟨rfl, n6⟩
  rw [decide_eq_true rfl]
  (repeat' (first | refine Wl.assignE (by conv => { lhs; whnf }) ?_ | refine Wl.nil ?_ | refine Wl.pickTE rfl (by conv => { lhs; whnf }) ?_ | refine Qseq.normal ?_ | refine Wc.ret ?_))
  exact Qfn.ret1 rfl rfl ⟨_, rfl, rfl, ((n3.trans n4).trans n5).trans n6⟩
end Go.Proofs.YtjaendlcijmifaaGreatDoor
