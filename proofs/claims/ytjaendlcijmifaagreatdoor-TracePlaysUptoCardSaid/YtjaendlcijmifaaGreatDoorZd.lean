/-
  Texts of this claim, one behind the other: Xg, Xh, Ru, Xi, Xj, Xk, SmS, Pl1, Pl2, Mp, Pl3, Srt, Pl4, Pl5, Pl7, Nr.
-/
import Derived.Test.YtjaendlcijmifaaGreatDoorZc
import Derived.Lib.ItoaNum
import Derived.Lib.ItoaMem
import Derived.Lib.AppendIntMem
import Derived.OrdersIn
import Derived.Laws.StructEq
import Derived.ChangeKeysEq
import Derived.Shelf.SlSortCmp.NoneTotal
import Derived.Ground.SlsfProg
import Derived.Test.YtjaendlcijmifaaGreatDoorProg
import Derived.Sort.Walk0
import Derived.Laws.Cover1
namespace Go.Proofs.YtjaendlcijmifaaGreatDoor
open Go Wk
open Go.RowKit (Below)
attribute [local irreducible] Go.Calls

set_option maxHeartbeats 1000000 in
theorem events_spec {Pb : Nat → Prop} {w : World} {v : Value} {l : List Ev} (h : RdS rEv 6 Pb w v l) (hl : l.length ≤ 2000000) :
    Calls Tryz.prog 7 #[v] w (Ret fun r w' => OwnS rEv 26 6 (fun b => w.heap.size ≤ b) No w' r l ∧ New w w') := by
  obtain ⟨a, cp, rfl, hc1, hc2⟩ := h.form
  simp only [maxLen] at hc2
  refine calls_of_Wc Tryz.func7 rfl Tryz.ntmps7 rfl ?_
  (repeat' (first | refine Wl.moveE (by conv => { lhs; whnf }) ?_ | refine Wl.assignE (by conv => { lhs; whnf }) ?_ | refine Wl.nil ?_ | refine Wl.extract rfl rfl ?_ | refine Wl.guardY rfl rfl ?_ | refine Wl.guardN rfl rfl ?_ | refine Wl.guardU rfl ?_ | refine Wl.pickTE rfl (by conv => { lhs; whnf }) ?_ | refine Wl.pickFE rfl (by conv => { lhs; whnf }) ?_ | refine Wl.notB rfl ?_ | refine Wl.lenS rfl ?_ | refine Wl.lenStr rfl ?_ | refine Qseq.normal ?_ | refine Wc.seq ?_ | refine Wc.region ?_ | refine Wc.block ?_ | refine Wc.skip ?_ | refine Wc.exit ?_ | refine Wc.ret ?_ | refine Qseq.exit ?_ | refine Qseq.ret ?_ | refine Wc.scope ?_ | refine Wc.label ?_ | refine Qsc.normal ?_ | refine Qsc.exit ?_ | refine Qsc.ret ?_ | refine Qblk.normal ?_ | refine Qblk.ret ?_ | refine Qblk.hit ?_ | refine Qblk.miss rfl ?_ | refine Qloop.exit ?_ | refine Qloop.ret ?_ | refine Wc.condT rfl ?_ | refine Wc.condF rfl ?_ | refine Wl.nilP rfl ?_ | refine Wl.fieldAddr rfl rfl ?_ | refine Wl.nilF rfl ?_ | refine Wl.add rfl rfl (by omega) (by omega) ?_ | refine Wl.sub rfl rfl (by omega) (by omega) ?_ | refine Wl.mul rfl rfl (by omega) (by omega) ?_ | refine Wl.convI rfl ?_ | (refine Wl.lss rfl rfl (fun _ => ?_) (fun _ => ?_) <;> (first | (exfalso; omega) | (exfalso; contradiction) | skip)) | (refine Wl.leq rfl rfl (fun _ => ?_) (fun _ => ?_) <;> (first | (exfalso; omega) | (exfalso; contradiction) | skip)) | (refine Wl.gtr rfl rfl (fun _ => ?_) (fun _ => ?_) <;> (first | (exfalso; omega) | (exfalso; contradiction) | skip)) | (refine Wl.geq rfl rfl (fun _ => ?_) (fun _ => ?_) <;> (first | (exfalso; omega) | (exfalso; contradiction) | skip)) | (refine Wl.eql rfl rfl (fun _ => ?_) (fun _ => ?_) <;> (first | (exfalso; omega) | (exfalso; contradiction) | skip)) | (refine Wl.neq rfl rfl (fun _ => ?_) (fun _ => ?_) <;> (first | (exfalso; omega) | (exfalso; contradiction) | skip)) | (refine Wl.seql rfl rfl (fun _ => ?_) (fun _ => ?_) <;> (first | (exfalso; omega) | (exfalso; contradiction) | skip)) | (refine Wl.sneq rfl rfl (fun _ => ?_) (fun _ => ?_) <;> (first | (exfalso; omega) | (exfalso; contradiction) | skip))))
  refine Wc.loop (σ := Nat × Value) (fun s => [(0, .slice a l.length cp), (3, s.2), (4, vi s.1)]) (fun s w' => s.1 ≤ l.length ∧ OwnS rEv 26 6 (fun b => w.heap.size ≤ b) No w' s.2 (l.take s.1) ∧ New w w') (fun s => l.length - s.1) (0, .slice none 0 0) ⟨rfl, rfl, rfl, trivial⟩ ⟨Nat.zero_le _, OwnS.nil, Chg.refl _ _⟩ ?_
  rintro ⟨i, g⟩ G w1 ⟨hi, og, n1⟩
  dsimp only at hi og
  simp only [upds]
  (repeat' (first | refine Wl.moveE (by conv => { lhs; whnf }) ?_ | refine Wl.assignE (by conv => { lhs; whnf }) ?_ | refine Wl.nil ?_ | refine Wl.extract rfl rfl ?_ | refine Wl.guardY rfl rfl ?_ | refine Wl.guardN rfl rfl ?_ | refine Wl.guardU rfl ?_ | refine Wl.pickTE rfl (by conv => { lhs; whnf }) ?_ | refine Wl.pickFE rfl (by conv => { lhs; whnf }) ?_ | refine Wl.notB rfl ?_ | refine Wl.lenS rfl ?_ | refine Wl.lenStr rfl ?_ | refine Qseq.normal ?_ | refine Wc.seq ?_ | refine Wc.region ?_ | refine Wc.block ?_ | refine Wc.skip ?_ | refine Wc.exit ?_ | refine Wc.ret ?_ | refine Qseq.exit ?_ | refine Qseq.ret ?_ | refine Wc.scope ?_ | refine Wc.label ?_ | refine Qsc.normal ?_ | refine Qsc.exit ?_ | refine Qsc.ret ?_ | refine Qblk.normal ?_ | refine Qblk.ret ?_ | refine Qblk.hit ?_ | refine Qblk.miss rfl ?_ | refine Qloop.exit ?_ | refine Qloop.ret ?_ | refine Wc.condT rfl ?_ | refine Wc.condF rfl ?_ | refine Wl.nilP rfl ?_ | refine Wl.fieldAddr rfl rfl ?_ | refine Wl.nilF rfl ?_ | refine Wl.add rfl rfl (by omega) (by omega) ?_ | refine Wl.sub rfl rfl (by omega) (by omega) ?_ | refine Wl.mul rfl rfl (by omega) (by omega) ?_ | refine Wl.convI rfl ?_ | (refine Wl.lss rfl rfl (fun _ => ?_) (fun _ => ?_) <;> (first | (exfalso; omega) | (exfalso; contradiction) | skip)) | (refine Wl.leq rfl rfl (fun _ => ?_) (fun _ => ?_) <;> (first | (exfalso; omega) | (exfalso; contradiction) | skip)) | (refine Wl.gtr rfl rfl (fun _ => ?_) (fun _ => ?_) <;> (first | (exfalso; omega) | (exfalso; contradiction) | skip)) | (refine Wl.geq rfl rfl (fun _ => ?_) (fun _ => ?_) <;> (first | (exfalso; omega) | (exfalso; contradiction) | skip)) | (refine Wl.eql rfl rfl (fun _ => ?_) (fun _ => ?_) <;> (first | (exfalso; omega) | (exfalso; contradiction) | skip)) | (refine Wl.neq rfl rfl (fun _ => ?_) (fun _ => ?_) <;> (first | (exfalso; omega) | (exfalso; contradiction) | skip)) | (refine Wl.seql rfl rfl (fun _ => ?_) (fun _ => ?_) <;> (first | (exfalso; omega) | (exfalso; contradiction) | skip)) | (refine Wl.sneq rfl rfl (fun _ => ?_) (fun _ => ?_) <;> (first | (exfalso; omega) | (exfalso; contradiction) | skip))))
  · obtain ⟨y, hy⟩ := get_lt l (k := i) (by omega)
    refine Wl.idxAddr (h.keep (stable_flat _) n1.keep) rfl rfl (by omega) (by rw [Int.toNat_natCast]; exact hy) fun bb o cs hcl hR hat => ?_
    obtain rfl : cs = evC y := hR
    refine Wl.loadAt hat rfl rfl ?_
    refine Wl.alloc fun w2 b2 n2 s2 => ?_
    refine Wl.storeB (o := 0) (new := evC y) b2 rfl rfl rfl rfl (Nat.le_refl 6) (evC_one _) fun w3 b3 c3 s3 => ?_
    replace b3 : Bk w3 w1.heap.size 27 (evC y) := b3
    have n13 : New w1 w3 := Chg.trans n2 c3 fun _ _ e => by omega
    have og3 := og.new (plain_flat _) n13
    have s1 := n1.size
    (repeat' (first | refine Wl.moveE (by conv => { lhs; whnf }) ?_ | refine Wl.assignE (by conv => { lhs; whnf }) ?_ | refine Wl.nil ?_ | refine Wl.extract rfl rfl ?_ | refine Wl.guardY rfl rfl ?_ | refine Wl.guardN rfl rfl ?_ | refine Wl.guardU rfl ?_ | refine Wl.pickTE rfl (by conv => { lhs; whnf }) ?_ | refine Wl.pickFE rfl (by conv => { lhs; whnf }) ?_ | refine Wl.notB rfl ?_ | refine Wl.lenS rfl ?_ | refine Wl.lenStr rfl ?_ | refine Qseq.normal ?_ | refine Wc.seq ?_ | refine Wc.region ?_ | refine Wc.block ?_ | refine Wc.skip ?_ | refine Wc.exit ?_ | refine Wc.ret ?_ | refine Qseq.exit ?_ | refine Qseq.ret ?_ | refine Wc.scope ?_ | refine Wc.label ?_ | refine Qsc.normal ?_ | refine Qsc.exit ?_ | refine Qsc.ret ?_ | refine Qblk.normal ?_ | refine Qblk.ret ?_ | refine Qblk.hit ?_ | refine Qblk.miss rfl ?_ | refine Qloop.exit ?_ | refine Qloop.ret ?_ | refine Wc.condT rfl ?_ | refine Wc.condF rfl ?_ | refine Wl.nilP rfl ?_ | refine Wl.fieldAddr rfl rfl ?_ | refine Wl.nilF rfl ?_ | refine Wl.add rfl rfl (by omega) (by omega) ?_ | refine Wl.sub rfl rfl (by omega) (by omega) ?_ | refine Wl.mul rfl rfl (by omega) (by omega) ?_ | refine Wl.convI rfl ?_ | (refine Wl.lss rfl rfl (fun _ => ?_) (fun _ => ?_) <;> (first | (exfalso; omega) | (exfalso; contradiction) | skip)) | (refine Wl.leq rfl rfl (fun _ => ?_) (fun _ => ?_) <;> (first | (exfalso; omega) | (exfalso; contradiction) | skip)) | (refine Wl.gtr rfl rfl (fun _ => ?_) (fun _ => ?_) <;> (first | (exfalso; omega) | (exfalso; contradiction) | skip)) | (refine Wl.geq rfl rfl (fun _ => ?_) (fun _ => ?_) <;> (first | (exfalso; omega) | (exfalso; contradiction) | skip)) | (refine Wl.eql rfl rfl (fun _ => ?_) (fun _ => ?_) <;> (first | (exfalso; omega) | (exfalso; contradiction) | skip)) | (refine Wl.neq rfl rfl (fun _ => ?_) (fun _ => ?_) <;> (first | (exfalso; omega) | (exfalso; contradiction) | skip)) | (refine Wl.seql rfl rfl (fun _ => ?_) (fun _ => ?_) <;> (first | (exfalso; omega) | (exfalso; contradiction) | skip)) | (refine Wl.sneq rfl rfl (fun _ => ?_) (fun _ => ?_) <;> (first | (exfalso; omega) | (exfalso; contradiction) | skip))))
    refine Wl.load1 rfl (b3.cell (o := 0) rfl) ?_
    (repeat' (first | refine Wl.moveE (by conv => { lhs; whnf }) ?_ | refine Wl.assignE (by conv => { lhs; whnf }) ?_ | refine Wl.nil ?_ | refine Wl.extract rfl rfl ?_ | refine Wl.guardY rfl rfl ?_ | refine Wl.guardN rfl rfl ?_ | refine Wl.guardU rfl ?_ | refine Wl.pickTE rfl (by conv => { lhs; whnf }) ?_ | refine Wl.pickFE rfl (by conv => { lhs; whnf }) ?_ | refine Wl.notB rfl ?_ | refine Wl.lenS rfl ?_ | refine Wl.lenStr rfl ?_ | refine Qseq.normal ?_ | refine Wc.seq ?_ | refine Wc.region ?_ | refine Wc.block ?_ | refine Wc.skip ?_ | refine Wc.exit ?_ | refine Wc.ret ?_ | refine Qseq.exit ?_ | refine Qseq.ret ?_ | refine Wc.scope ?_ | refine Wc.label ?_ | refine Qsc.normal ?_ | refine Qsc.exit ?_ | refine Qsc.ret ?_ | refine Qblk.normal ?_ | refine Qblk.ret ?_ | refine Qblk.hit ?_ | refine Qblk.miss rfl ?_ | refine Qloop.exit ?_ | refine Qloop.ret ?_ | refine Wc.condT rfl ?_ | refine Wc.condF rfl ?_ | refine Wl.nilP rfl ?_ | refine Wl.fieldAddr rfl rfl ?_ | refine Wl.nilF rfl ?_ | refine Wl.add rfl rfl (by omega) (by omega) ?_ | refine Wl.sub rfl rfl (by omega) (by omega) ?_ | refine Wl.mul rfl rfl (by omega) (by omega) ?_ | refine Wl.convI rfl ?_ | (refine Wl.lss rfl rfl (fun _ => ?_) (fun _ => ?_) <;> (first | (exfalso; omega) | (exfalso; contradiction) | skip)) | (refine Wl.leq rfl rfl (fun _ => ?_) (fun _ => ?_) <;> (first | (exfalso; omega) | (exfalso; contradiction) | skip)) | (refine Wl.gtr rfl rfl (fun _ => ?_) (fun _ => ?_) <;> (first | (exfalso; omega) | (exfalso; contradiction) | skip)) | (refine Wl.geq rfl rfl (fun _ => ?_) (fun _ => ?_) <;> (first | (exfalso; omega) | (exfalso; contradiction) | skip)) | (refine Wl.eql rfl rfl (fun _ => ?_) (fun _ => ?_) <;> (first | (exfalso; omega) | (exfalso; contradiction) | skip)) | (refine Wl.neq rfl rfl (fun _ => ?_) (fun _ => ?_) <;> (first | (exfalso; omega) | (exfalso; contradiction) | skip)) | (refine Wl.seql rfl rfl (fun _ => ?_) (fun _ => ?_) <;> (first | (exfalso; omega) | (exfalso; contradiction) | skip)) | (refine Wl.sneq rfl rfl (fun _ => ?_) (fun _ => ?_) <;> (first | (exfalso; omega) | (exfalso; contradiction) | skip))))
    refine Wl.load1 rfl (b3.cell (o := 1) rfl) ?_
    (repeat' (first | refine Wl.moveE (by conv => { lhs; whnf }) ?_ | refine Wl.assignE (by conv => { lhs; whnf }) ?_ | refine Wl.nil ?_ | refine Wl.extract rfl rfl ?_ | refine Wl.guardY rfl rfl ?_ | refine Wl.guardN rfl rfl ?_ | refine Wl.guardU rfl ?_ | refine Wl.pickTE rfl (by conv => { lhs; whnf }) ?_ | refine Wl.pickFE rfl (by conv => { lhs; whnf }) ?_ | refine Wl.notB rfl ?_ | refine Wl.lenS rfl ?_ | refine Wl.lenStr rfl ?_ | refine Qseq.normal ?_ | refine Wc.seq ?_ | refine Wc.region ?_ | refine Wc.block ?_ | refine Wc.skip ?_ | refine Wc.exit ?_ | refine Wc.ret ?_ | refine Qseq.exit ?_ | refine Qseq.ret ?_ | refine Wc.scope ?_ | refine Wc.label ?_ | refine Qsc.normal ?_ | refine Qsc.exit ?_ | refine Qsc.ret ?_ | refine Qblk.normal ?_ | refine Qblk.ret ?_ | refine Qblk.hit ?_ | refine Qblk.miss rfl ?_ | refine Qloop.exit ?_ | refine Qloop.ret ?_ | refine Wc.condT rfl ?_ | refine Wc.condF rfl ?_ | refine Wl.nilP rfl ?_ | refine Wl.fieldAddr rfl rfl ?_ | refine Wl.nilF rfl ?_ | refine Wl.add rfl rfl (by omega) (by omega) ?_ | refine Wl.sub rfl rfl (by omega) (by omega) ?_ | refine Wl.mul rfl rfl (by omega) (by omega) ?_ | refine Wl.convI rfl ?_ | (refine Wl.lss rfl rfl (fun _ => ?_) (fun _ => ?_) <;> (first | (exfalso; omega) | (exfalso; contradiction) | skip)) | (refine Wl.leq rfl rfl (fun _ => ?_) (fun _ => ?_) <;> (first | (exfalso; omega) | (exfalso; contradiction) | skip)) | (refine Wl.gtr rfl rfl (fun _ => ?_) (fun _ => ?_) <;> (first | (exfalso; omega) | (exfalso; contradiction) | skip)) | (refine Wl.geq rfl rfl (fun _ => ?_) (fun _ => ?_) <;> (first | (exfalso; omega) | (exfalso; contradiction) | skip)) | (refine Wl.eql rfl rfl (fun _ => ?_) (fun _ => ?_) <;> (first | (exfalso; omega) | (exfalso; contradiction) | skip)) | (refine Wl.neq rfl rfl (fun _ => ?_) (fun _ => ?_) <;> (first | (exfalso; omega) | (exfalso; contradiction) | skip)) | (refine Wl.seql rfl rfl (fun _ => ?_) (fun _ => ?_) <;> (first | (exfalso; omega) | (exfalso; contradiction) | skip)) | (refine Wl.sneq rfl rfl (fun _ => ?_) (fun _ => ?_) <;> (first | (exfalso; omega) | (exfalso; contradiction) | skip))))
    refine Wl.load1 rfl (b3.cell (o := 2) rfl) ?_
    (repeat' (first | refine Wl.moveE (by conv => { lhs; whnf }) ?_ | refine Wl.assignE (by conv => { lhs; whnf }) ?_ | refine Wl.nil ?_ | refine Wl.extract rfl rfl ?_ | refine Wl.guardY rfl rfl ?_ | refine Wl.guardN rfl rfl ?_ | refine Wl.guardU rfl ?_ | refine Wl.pickTE rfl (by conv => { lhs; whnf }) ?_ | refine Wl.pickFE rfl (by conv => { lhs; whnf }) ?_ | refine Wl.notB rfl ?_ | refine Wl.lenS rfl ?_ | refine Wl.lenStr rfl ?_ | refine Qseq.normal ?_ | refine Wc.seq ?_ | refine Wc.region ?_ | refine Wc.block ?_ | refine Wc.skip ?_ | refine Wc.exit ?_ | refine Wc.ret ?_ | refine Qseq.exit ?_ | refine Qseq.ret ?_ | refine Wc.scope ?_ | refine Wc.label ?_ | refine Qsc.normal ?_ | refine Qsc.exit ?_ | refine Qsc.ret ?_ | refine Qblk.normal ?_ | refine Qblk.ret ?_ | refine Qblk.hit ?_ | refine Qblk.miss rfl ?_ | refine Qloop.exit ?_ | refine Qloop.ret ?_ | refine Wc.condT rfl ?_ | refine Wc.condF rfl ?_ | refine Wl.nilP rfl ?_ | refine Wl.fieldAddr rfl rfl ?_ | refine Wl.nilF rfl ?_ | refine Wl.add rfl rfl (by omega) (by omega) ?_ | refine Wl.sub rfl rfl (by omega) (by omega) ?_ | refine Wl.mul rfl rfl (by omega) (by omega) ?_ | refine Wl.convI rfl ?_ | (refine Wl.lss rfl rfl (fun _ => ?_) (fun _ => ?_) <;> (first | (exfalso; omega) | (exfalso; contradiction) | skip)) | (refine Wl.leq rfl rfl (fun _ => ?_) (fun _ => ?_) <;> (first | (exfalso; omega) | (exfalso; contradiction) | skip)) | (refine Wl.gtr rfl rfl (fun _ => ?_) (fun _ => ?_) <;> (first | (exfalso; omega) | (exfalso; contradiction) | skip)) | (refine Wl.geq rfl rfl (fun _ => ?_) (fun _ => ?_) <;> (first | (exfalso; omega) | (exfalso; contradiction) | skip)) | (refine Wl.eql rfl rfl (fun _ => ?_) (fun _ => ?_) <;> (first | (exfalso; omega) | (exfalso; contradiction) | skip)) | (refine Wl.neq rfl rfl (fun _ => ?_) (fun _ => ?_) <;> (first | (exfalso; omega) | (exfalso; contradiction) | skip)) | (refine Wl.seql rfl rfl (fun _ => ?_) (fun _ => ?_) <;> (first | (exfalso; omega) | (exfalso; contradiction) | skip)) | (refine Wl.sneq rfl rfl (fun _ => ?_) (fun _ => ?_) <;> (first | (exfalso; omega) | (exfalso; contradiction) | skip))))
    refine Wl.load1 rfl (b3.cell (o := 3) rfl) ?_
    (repeat' (first | refine Wl.moveE (by conv => { lhs; whnf }) ?_ | refine Wl.assignE (by conv => { lhs; whnf }) ?_ | refine Wl.nil ?_ | refine Wl.extract rfl rfl ?_ | refine Wl.guardY rfl rfl ?_ | refine Wl.guardN rfl rfl ?_ | refine Wl.guardU rfl ?_ | refine Wl.pickTE rfl (by conv => { lhs; whnf }) ?_ | refine Wl.pickFE rfl (by conv => { lhs; whnf }) ?_ | refine Wl.notB rfl ?_ | refine Wl.lenS rfl ?_ | refine Wl.lenStr rfl ?_ | refine Qseq.normal ?_ | refine Wc.seq ?_ | refine Wc.region ?_ | refine Wc.block ?_ | refine Wc.skip ?_ | refine Wc.exit ?_ | refine Wc.ret ?_ | refine Qseq.exit ?_ | refine Qseq.ret ?_ | refine Wc.scope ?_ | refine Wc.label ?_ | refine Qsc.normal ?_ | refine Qsc.exit ?_ | refine Qsc.ret ?_ | refine Qblk.normal ?_ | refine Qblk.ret ?_ | refine Qblk.hit ?_ | refine Qblk.miss rfl ?_ | refine Qloop.exit ?_ | refine Qloop.ret ?_ | refine Wc.condT rfl ?_ | refine Wc.condF rfl ?_ | refine Wl.nilP rfl ?_ | refine Wl.fieldAddr rfl rfl ?_ | refine Wl.nilF rfl ?_ | refine Wl.add rfl rfl (by omega) (by omega) ?_ | refine Wl.sub rfl rfl (by omega) (by omega) ?_ | refine Wl.mul rfl rfl (by omega) (by omega) ?_ | refine Wl.convI rfl ?_ | (refine Wl.lss rfl rfl (fun _ => ?_) (fun _ => ?_) <;> (first | (exfalso; omega) | (exfalso; contradiction) | skip)) | (refine Wl.leq rfl rfl (fun _ => ?_) (fun _ => ?_) <;> (first | (exfalso; omega) | (exfalso; contradiction) | skip)) | (refine Wl.gtr rfl rfl (fun _ => ?_) (fun _ => ?_) <;> (first | (exfalso; omega) | (exfalso; contradiction) | skip)) | (refine Wl.geq rfl rfl (fun _ => ?_) (fun _ => ?_) <;> (first | (exfalso; omega) | (exfalso; contradiction) | skip)) | (refine Wl.eql rfl rfl (fun _ => ?_) (fun _ => ?_) <;> (first | (exfalso; omega) | (exfalso; contradiction) | skip)) | (refine Wl.neq rfl rfl (fun _ => ?_) (fun _ => ?_) <;> (first | (exfalso; omega) | (exfalso; contradiction) | skip)) | (refine Wl.seql rfl rfl (fun _ => ?_) (fun _ => ?_) <;> (first | (exfalso; omega) | (exfalso; contradiction) | skip)) | (refine Wl.sneq rfl rfl (fun _ => ?_) (fun _ => ?_) <;> (first | (exfalso; omega) | (exfalso; contradiction) | skip))))
    refine Wl.load1 rfl (b3.cell (o := 4) rfl) ?_
    (repeat' (first | refine Wl.moveE (by conv => { lhs; whnf }) ?_ | refine Wl.assignE (by conv => { lhs; whnf }) ?_ | refine Wl.nil ?_ | refine Wl.extract rfl rfl ?_ | refine Wl.guardY rfl rfl ?_ | refine Wl.guardN rfl rfl ?_ | refine Wl.guardU rfl ?_ | refine Wl.pickTE rfl (by conv => { lhs; whnf }) ?_ | refine Wl.pickFE rfl (by conv => { lhs; whnf }) ?_ | refine Wl.notB rfl ?_ | refine Wl.lenS rfl ?_ | refine Wl.lenStr rfl ?_ | refine Qseq.normal ?_ | refine Wc.seq ?_ | refine Wc.region ?_ | refine Wc.block ?_ | refine Wc.skip ?_ | refine Wc.exit ?_ | refine Wc.ret ?_ | refine Qseq.exit ?_ | refine Qseq.ret ?_ | refine Wc.scope ?_ | refine Wc.label ?_ | refine Qsc.normal ?_ | refine Qsc.exit ?_ | refine Qsc.ret ?_ | refine Qblk.normal ?_ | refine Qblk.ret ?_ | refine Qblk.hit ?_ | refine Qblk.miss rfl ?_ | refine Qloop.exit ?_ | refine Qloop.ret ?_ | refine Wc.condT rfl ?_ | refine Wc.condF rfl ?_ | refine Wl.nilP rfl ?_ | refine Wl.fieldAddr rfl rfl ?_ | refine Wl.nilF rfl ?_ | refine Wl.add rfl rfl (by omega) (by omega) ?_ | refine Wl.sub rfl rfl (by omega) (by omega) ?_ | refine Wl.mul rfl rfl (by omega) (by omega) ?_ | refine Wl.convI rfl ?_ | (refine Wl.lss rfl rfl (fun _ => ?_) (fun _ => ?_) <;> (first | (exfalso; omega) | (exfalso; contradiction) | skip)) | (refine Wl.leq rfl rfl (fun _ => ?_) (fun _ => ?_) <;> (first | (exfalso; omega) | (exfalso; contradiction) | skip)) | (refine Wl.gtr rfl rfl (fun _ => ?_) (fun _ => ?_) <;> (first | (exfalso; omega) | (exfalso; contradiction) | skip)) | (refine Wl.geq rfl rfl (fun _ => ?_) (fun _ => ?_) <;> (first | (exfalso; omega) | (exfalso; contradiction) | skip)) | (refine Wl.eql rfl rfl (fun _ => ?_) (fun _ => ?_) <;> (first | (exfalso; omega) | (exfalso; contradiction) | skip)) | (refine Wl.neq rfl rfl (fun _ => ?_) (fun _ => ?_) <;> (first | (exfalso; omega) | (exfalso; contradiction) | skip)) | (refine Wl.seql rfl rfl (fun _ => ?_) (fun _ => ?_) <;> (first | (exfalso; omega) | (exfalso; contradiction) | skip)) | (refine Wl.sneq rfl rfl (fun _ => ?_) (fun _ => ?_) <;> (first | (exfalso; omega) | (exfalso; contradiction) | skip))))
    refine Wl.load1 rfl (b3.cell (o := 5) rfl) ?_
    refine Wl.buildG (u := evV y) rfl (by kernel_rfl) ?_
    refine Wl.append1 (y := y) goodEv og3 rfl rfl rfl rfl rfl (by omega) (by omega) (by simp only [maxLen, List.length_take]; omega) (by simp only [List.length_take]; omega) rfl rfl fun g' w4 p og4 c4 _ => ?_
    rw [← take_snoc' hy] at og4
    (repeat' (first | refine Wl.moveE (by conv => { lhs; whnf }) ?_ | refine Wl.assignE (by conv => { lhs; whnf }) ?_ | refine Wl.nil ?_ | refine Wl.extract rfl rfl ?_ | refine Wl.guardY rfl rfl ?_ | refine Wl.guardN rfl rfl ?_ | refine Wl.guardU rfl ?_ | refine Wl.pickTE rfl (by conv => { lhs; whnf }) ?_ | refine Wl.pickFE rfl (by conv => { lhs; whnf }) ?_ | refine Wl.notB rfl ?_ | refine Wl.lenS rfl ?_ | refine Wl.lenStr rfl ?_ | refine Qseq.normal ?_ | refine Wc.seq ?_ | refine Wc.region ?_ | refine Wc.block ?_ | refine Wc.skip ?_ | refine Wc.exit ?_ | refine Wc.ret ?_ | refine Qseq.exit ?_ | refine Qseq.ret ?_ | refine Wc.scope ?_ | refine Wc.label ?_ | refine Qsc.normal ?_ | refine Qsc.exit ?_ | refine Qsc.ret ?_ | refine Qblk.normal ?_ | refine Qblk.ret ?_ | refine Qblk.hit ?_ | refine Qblk.miss rfl ?_ | refine Qloop.exit ?_ | refine Qloop.ret ?_ | refine Wc.condT rfl ?_ | refine Wc.condF rfl ?_ | refine Wl.nilP rfl ?_ | refine Wl.fieldAddr rfl rfl ?_ | refine Wl.nilF rfl ?_ | refine Wl.add rfl rfl (by omega) (by omega) ?_ | refine Wl.sub rfl rfl (by omega) (by omega) ?_ | refine Wl.mul rfl rfl (by omega) (by omega) ?_ | refine Wl.convI rfl ?_ | (refine Wl.lss rfl rfl (fun _ => ?_) (fun _ => ?_) <;> (first | (exfalso; omega) | (exfalso; contradiction) | skip)) | (refine Wl.leq rfl rfl (fun _ => ?_) (fun _ => ?_) <;> (first | (exfalso; omega) | (exfalso; contradiction) | skip)) | (refine Wl.gtr rfl rfl (fun _ => ?_) (fun _ => ?_) <;> (first | (exfalso; omega) | (exfalso; contradiction) | skip)) | (refine Wl.geq rfl rfl (fun _ => ?_) (fun _ => ?_) <;> (first | (exfalso; omega) | (exfalso; contradiction) | skip)) | (refine Wl.eql rfl rfl (fun _ => ?_) (fun _ => ?_) <;> (first | (exfalso; omega) | (exfalso; contradiction) | skip)) | (refine Wl.neq rfl rfl (fun _ => ?_) (fun _ => ?_) <;> (first | (exfalso; omega) | (exfalso; contradiction) | skip)) | (refine Wl.seql rfl rfl (fun _ => ?_) (fun _ => ?_) <;> (first | (exfalso; omega) | (exfalso; contradiction) | skip)) | (refine Wl.sneq rfl rfl (fun _ => ?_) (fun _ => ?_) <;> (first | (exfalso; omega) | (exfalso; contradiction) | skip))))
    exact Qloop.normal (i + 1, g') ⟨rfl, rfl, rfl, trivial⟩ ⟨by dsimp only; omega, og4.mono goodEv.mo (fun k _ hk => by rcases hk with hk | hk <;> omega) (fun _ _ e => e), Chg.trans (n1.trans n13) c4 fun k hk e => by have := (og.lt e).1; omega⟩ (by dsimp only; omega)
  · have e : i = l.length := by omega
    subst e
    rw [List.take_length] at og
    exact Qfn.ret1 rfl rfl ⟨_, rfl, og, n1⟩
theorem SqR.new {Pb : Nat → Prop} {bs : Nat} {v : Value} {l : List Ev} {W W' : World} (h : SqR Pb bs v l W) (n : New W W') : SqR Pb bs v l W' := ⟨h.1.chg n (fun e => e), h.2.keep (stable_flat _) n.keep⟩
theorem SqR.put {Pb : Nat → Prop} {bs L : Nat} {v : Value} {l : List Ev} {W : World} (o : Obj) (h : SqR Pb bs v l W) (hL : NoC W L) (hP : ¬ Pb L) : SqR Pb bs v l (W.putObj L o) := ⟨h.1.put o hL, h.2.keep (stable_flat _) (Keep.put o hP)⟩
theorem SqR.chg {Pb M : Nat → Prop} {bs : Nat} {v : Value} {l : List Ev} {W W' : World} (h : SqR Pb bs v l W) (c : Chg M W W') (hb : ¬ M bs) (hP : ∀ k, Pb k → ¬ M k) : SqR Pb bs v l W' := ⟨h.1.chg c hb, h.2.keep (stable_flat _) (c.keep fun k _ hk => hP k hk)⟩
theorem getD_of {l : List Ev} {k : Nat} {y : Ev} (h : l[k]? = some y) : l.getD k ev0 = y := by rw [List.getD_eq_getElem?_getD, h]; rfl
set_option maxHeartbeats 2000000 in
theorem each_spec' {w : World} {p : Value} {l : List Ev} (hl : l.length ≤ 1000000) (hE : Calls Tryz.prog 27 #[p] w (Ret fun r w' => SeqAt (fun k => w.heap.size ≤ k) w' r l ∧ New w w')) :
    Calls Tryz.prog 15 #[p] w (Ret fun r w' => OwnS rEv 26 6 (fun b => w.heap.size ≤ b) No w' r l ∧ New w w') := by
  refine calls_of_Wd Tryz.func15 rfl Tryz.ntmps15 rfl ?_
  (repeat' (first | refine Wl.moveE (by conv => { lhs; whnf }) ?_ | refine Wl.assignE (by conv => { lhs; whnf }) ?_ | refine Wl.nil ?_ | refine Wl.extract rfl rfl ?_ | refine Wl.guardY rfl rfl ?_ | refine Wl.guardN rfl rfl ?_ | refine Wl.guardU rfl ?_ | refine Wl.pickTE rfl (by conv => { lhs; whnf }) ?_ | refine Wl.pickFE rfl (by conv => { lhs; whnf }) ?_ | refine Wl.notB rfl ?_ | refine Wl.lenS rfl ?_ | refine Wl.lenStr rfl ?_ | refine Wd.seq ?_ | refine Wd.block ?_ | refine Wd.condT rfl ?_ | refine Wd.condF rfl ?_ | refine Qds.normal ?_ | refine Qds.exit ?_ | refine Qds.ret ?_ | refine Qdb.normal ?_ | refine Qdb.ret ?_ | refine Qdb.hit ?_ | refine Qdb.miss rfl ?_ | refine Qdn.e ?_ | refine Wd.region ?_ | refine Wd.skip ?_ | refine Wd.exit ?_ | refine Wd.ret ?_ | refine Wl.nilP rfl ?_ | refine Wl.fieldAddr rfl rfl ?_ | refine Wl.nilF rfl ?_ | refine Wl.add rfl rfl (by omega) (by omega) ?_ | refine Wl.sub rfl rfl (by omega) (by omega) ?_ | refine Wl.mul rfl rfl (by omega) (by omega) ?_ | refine Wl.convI rfl ?_ | (refine Wl.lss rfl rfl (fun _ => ?_) (fun _ => ?_) <;> (first | (exfalso; omega) | (exfalso; contradiction) | skip)) | (refine Wl.leq rfl rfl (fun _ => ?_) (fun _ => ?_) <;> (first | (exfalso; omega) | (exfalso; contradiction) | skip)) | (refine Wl.gtr rfl rfl (fun _ => ?_) (fun _ => ?_) <;> (first | (exfalso; omega) | (exfalso; contradiction) | skip)) | (refine Wl.geq rfl rfl (fun _ => ?_) (fun _ => ?_) <;> (first | (exfalso; omega) | (exfalso; contradiction) | skip)) | (refine Wl.eql rfl rfl (fun _ => ?_) (fun _ => ?_) <;> (first | (exfalso; omega) | (exfalso; contradiction) | skip)) | (refine Wl.neq rfl rfl (fun _ => ?_) (fun _ => ?_) <;> (first | (exfalso; omega) | (exfalso; contradiction) | skip)) | (refine Wl.seql rfl rfl (fun _ => ?_) (fun _ => ?_) <;> (first | (exfalso; omega) | (exfalso; contradiction) | skip)) | (refine Wl.sneq rfl rfl (fun _ => ?_) (fun _ => ?_) <;> (first | (exfalso; omega) | (exfalso; contradiction) | skip))))
  refine Wl.call hE rfl ?_
  intro f w1 hh
  obtain ⟨⟨bs, sv, rfl, _, hb1, hr1⟩, n1⟩ := hh
  (repeat' (first | refine Wl.moveE (by conv => { lhs; whnf }) ?_ | refine Wl.assignE (by conv => { lhs; whnf }) ?_ | refine Wl.nil ?_ | refine Wl.extract rfl rfl ?_ | refine Wl.guardY rfl rfl ?_ | refine Wl.guardN rfl rfl ?_ | refine Wl.guardU rfl ?_ | refine Wl.pickTE rfl (by conv => { lhs; whnf }) ?_ | refine Wl.pickFE rfl (by conv => { lhs; whnf }) ?_ | refine Wl.notB rfl ?_ | refine Wl.lenS rfl ?_ | refine Wl.lenStr rfl ?_ | refine Wd.seq ?_ | refine Wd.block ?_ | refine Wd.condT rfl ?_ | refine Wd.condF rfl ?_ | refine Qds.normal ?_ | refine Qds.exit ?_ | refine Qds.ret ?_ | refine Qdb.normal ?_ | refine Qdb.ret ?_ | refine Qdb.hit ?_ | refine Qdb.miss rfl ?_ | refine Qdn.e ?_ | refine Wd.region ?_ | refine Wd.skip ?_ | refine Wd.exit ?_ | refine Wd.ret ?_ | refine Wl.nilP rfl ?_ | refine Wl.fieldAddr rfl rfl ?_ | refine Wl.nilF rfl ?_ | refine Wl.add rfl rfl (by omega) (by omega) ?_ | refine Wl.sub rfl rfl (by omega) (by omega) ?_ | refine Wl.mul rfl rfl (by omega) (by omega) ?_ | refine Wl.convI rfl ?_ | (refine Wl.lss rfl rfl (fun _ => ?_) (fun _ => ?_) <;> (first | (exfalso; omega) | (exfalso; contradiction) | skip)) | (refine Wl.leq rfl rfl (fun _ => ?_) (fun _ => ?_) <;> (first | (exfalso; omega) | (exfalso; contradiction) | skip)) | (refine Wl.gtr rfl rfl (fun _ => ?_) (fun _ => ?_) <;> (first | (exfalso; omega) | (exfalso; contradiction) | skip)) | (refine Wl.geq rfl rfl (fun _ => ?_) (fun _ => ?_) <;> (first | (exfalso; omega) | (exfalso; contradiction) | skip)) | (refine Wl.eql rfl rfl (fun _ => ?_) (fun _ => ?_) <;> (first | (exfalso; omega) | (exfalso; contradiction) | skip)) | (refine Wl.neq rfl rfl (fun _ => ?_) (fun _ => ?_) <;> (first | (exfalso; omega) | (exfalso; contradiction) | skip)) | (refine Wl.seql rfl rfl (fun _ => ?_) (fun _ => ?_) <;> (first | (exfalso; omega) | (exfalso; contradiction) | skip)) | (refine Wl.sneq rfl rfl (fun _ => ?_) (fun _ => ?_) <;> (first | (exfalso; omega) | (exfalso; contradiction) | skip))))
  refine Wl.feqNil ⟨_, _, _, Tryz.underlying70⟩ rfl rfl ?_
  (repeat' (first | refine Wl.moveE (by conv => { lhs; whnf }) ?_ | refine Wl.assignE (by conv => { lhs; whnf }) ?_ | refine Wl.nil ?_ | refine Wl.extract rfl rfl ?_ | refine Wl.guardY rfl rfl ?_ | refine Wl.guardN rfl rfl ?_ | refine Wl.guardU rfl ?_ | refine Wl.pickTE rfl (by conv => { lhs; whnf }) ?_ | refine Wl.pickFE rfl (by conv => { lhs; whnf }) ?_ | refine Wl.notB rfl ?_ | refine Wl.lenS rfl ?_ | refine Wl.lenStr rfl ?_ | refine Wd.seq ?_ | refine Wd.block ?_ | refine Wd.condT rfl ?_ | refine Wd.condF rfl ?_ | refine Qds.normal ?_ | refine Qds.exit ?_ | refine Qds.ret ?_ | refine Qdb.normal ?_ | refine Qdb.ret ?_ | refine Qdb.hit ?_ | refine Qdb.miss rfl ?_ | refine Qdn.e ?_ | refine Wd.region ?_ | refine Wd.skip ?_ | refine Wd.exit ?_ | refine Wd.ret ?_ | refine Wl.nilP rfl ?_ | refine Wl.fieldAddr rfl rfl ?_ | refine Wl.nilF rfl ?_ | refine Wl.add rfl rfl (by omega) (by omega) ?_ | refine Wl.sub rfl rfl (by omega) (by omega) ?_ | refine Wl.mul rfl rfl (by omega) (by omega) ?_ | refine Wl.convI rfl ?_ | (refine Wl.lss rfl rfl (fun _ => ?_) (fun _ => ?_) <;> (first | (exfalso; omega) | (exfalso; contradiction) | skip)) | (refine Wl.leq rfl rfl (fun _ => ?_) (fun _ => ?_) <;> (first | (exfalso; omega) | (exfalso; contradiction) | skip)) | (refine Wl.gtr rfl rfl (fun _ => ?_) (fun _ => ?_) <;> (first | (exfalso; omega) | (exfalso; contradiction) | skip)) | (refine Wl.geq rfl rfl (fun _ => ?_) (fun _ => ?_) <;> (first | (exfalso; omega) | (exfalso; contradiction) | skip)) | (refine Wl.eql rfl rfl (fun _ => ?_) (fun _ => ?_) <;> (first | (exfalso; omega) | (exfalso; contradiction) | skip)) | (refine Wl.neq rfl rfl (fun _ => ?_) (fun _ => ?_) <;> (first | (exfalso; omega) | (exfalso; contradiction) | skip)) | (refine Wl.seql rfl rfl (fun _ => ?_) (fun _ => ?_) <;> (first | (exfalso; omega) | (exfalso; contradiction) | skip)) | (refine Wl.sneq rfl rfl (fun _ => ?_) (fun _ => ?_) <;> (first | (exfalso; omega) | (exfalso; contradiction) | skip))))
  refine Wl.alloc fun w2 b2 n2 s2 => ?_
  replace b2 : Bk w2 w1.heap.size 23 [.slice none 0 0] := b2
  have hq2 : SqR (fun k => k < w1.heap.size) bs sv l w2 := ⟨hb1.chg n2 (fun e => e), (hr1.mono (mono_flat _) fun k hk _ => hk).keep (stable_flat _) n2.keep⟩
  have hbl := hb1.lt
  have n02 := n1.trans n2
  have s1 := n1.size
  clear hb1 hr1
  let I : Nat → World → Prop := fun k W => New w W ∧ w2.heap.size ≤ W.heap.size ∧ SqR (fun k => k < w1.heap.size) bs sv l W ∧ ∃ u, Bk W w1.heap.size 23 [u] ∧ OwnS rEv 27 6 (fun j => w2.heap.size ≤ j) No W u (l.take k)
  (repeat' (first | refine Wl.moveE (by conv => { lhs; whnf }) ?_ | refine Wl.assignE (by conv => { lhs; whnf }) ?_ | refine Wl.nil ?_ | refine Wl.extract rfl rfl ?_ | refine Wl.guardY rfl rfl ?_ | refine Wl.guardN rfl rfl ?_ | refine Wl.guardU rfl ?_ | refine Wl.pickTE rfl (by conv => { lhs; whnf }) ?_ | refine Wl.pickFE rfl (by conv => { lhs; whnf }) ?_ | refine Wl.notB rfl ?_ | refine Wl.lenS rfl ?_ | refine Wl.lenStr rfl ?_ | refine Wd.seq ?_ | refine Wd.block ?_ | refine Wd.condT rfl ?_ | refine Wd.condF rfl ?_ | refine Qds.normal ?_ | refine Qds.exit ?_ | refine Qds.ret ?_ | refine Qdb.normal ?_ | refine Qdb.ret ?_ | refine Qdb.hit ?_ | refine Qdb.miss rfl ?_ | refine Qdn.e ?_ | refine Wd.region ?_ | refine Wd.skip ?_ | refine Wd.exit ?_ | refine Wd.ret ?_ | refine Wl.nilP rfl ?_ | refine Wl.fieldAddr rfl rfl ?_ | refine Wl.nilF rfl ?_ | refine Wl.add rfl rfl (by omega) (by omega) ?_ | refine Wl.sub rfl rfl (by omega) (by omega) ?_ | refine Wl.mul rfl rfl (by omega) (by omega) ?_ | refine Wl.convI rfl ?_ | (refine Wl.lss rfl rfl (fun _ => ?_) (fun _ => ?_) <;> (first | (exfalso; omega) | (exfalso; contradiction) | skip)) | (refine Wl.leq rfl rfl (fun _ => ?_) (fun _ => ?_) <;> (first | (exfalso; omega) | (exfalso; contradiction) | skip)) | (refine Wl.gtr rfl rfl (fun _ => ?_) (fun _ => ?_) <;> (first | (exfalso; omega) | (exfalso; contradiction) | skip)) | (refine Wl.geq rfl rfl (fun _ => ?_) (fun _ => ?_) <;> (first | (exfalso; omega) | (exfalso; contradiction) | skip)) | (refine Wl.eql rfl rfl (fun _ => ?_) (fun _ => ?_) <;> (first | (exfalso; omega) | (exfalso; contradiction) | skip)) | (refine Wl.neq rfl rfl (fun _ => ?_) (fun _ => ?_) <;> (first | (exfalso; omega) | (exfalso; contradiction) | skip)) | (refine Wl.seql rfl rfl (fun _ => ?_) (fun _ => ?_) <;> (first | (exfalso; omega) | (exfalso; contradiction) | skip)) | (refine Wl.sneq rfl rfl (fun _ => ?_) (fun _ => ?_) <;> (first | (exfalso; omega) | (exfalso; contradiction) | skip))))
  refine Wd.range (gf := 71) (lb := #[pT bs]) rfl (fun args _ => run_callFunc inferInstance args) (iter_values (Pb := fun k => k < w1.heap.size) (bs := bs) (v := sv) (l := l)) I (fun _ _ => False) ?_ ?_ ?_ ?_ ?_ ?_ ?_ ?_ ?_
  · exact fun k W h => h.2.2.1
  · rintro k W W' ⟨h1, h2, h3, u, h4, h5⟩ n
    exact ⟨h1.trans n, Nat.le_trans h2 n.size, h3.new n, u, h4.chg n (fun e => e), h5.new (plain_flat _) n⟩
  · rintro k W r r' ⟨h1, h2, h3, u, h4, h5⟩ hL
    have z := n02.size
    exact ⟨h1.put _ (by omega), by simpa using h2, h3.put _ (.loop hL) (by omega), u, h4.put _ (.loop hL), h5.put _ (plain_flat _) (.loop hL)⟩
  · exact fun _ _ _ _ h => h.elim
  · intro r
    have n := Chg.loop (w := w2) (.deferred (some [])) (.loop r)
    exact ⟨n02.trans n, n.size, hq2.new n, _, b2.chg n (fun e => e), OwnS.nil⟩
  · rintro k W r hk ⟨h1, h2, h3, u, h4, h5⟩ hL hD
    obtain ⟨y, hy⟩ := get_lt l hk
    show Wr _ _ _ _ _ (upd _ 13 (evV (l.getD k ev0))) W
    rw [getD_of hy]
    (repeat' (first | refine Wl.moveE (by conv => { lhs; whnf }) ?_ | refine Wl.assignE (by conv => { lhs; whnf }) ?_ | refine Wl.nil ?_ | refine Wl.extract rfl rfl ?_ | refine Wl.guardY rfl rfl ?_ | refine Wl.guardN rfl rfl ?_ | refine Wl.guardU rfl ?_ | refine Wl.pickTE rfl (by conv => { lhs; whnf }) ?_ | refine Wl.pickFE rfl (by conv => { lhs; whnf }) ?_ | refine Wl.notB rfl ?_ | refine Wl.lenS rfl ?_ | refine Wl.lenStr rfl ?_ | refine Qsr.normal ?_ | refine Wr.seq ?_ | refine Wr.region rfl (by repeat' (first | exact Qfn.out (by rintro _ ⟨⟨_, e⟩, _⟩; cases e) | exact Qrd.out | exact Qas.out | refine Qsr.out ?_ | refine Qloop.out ?_ | refine Qsc.out ?_ | refine Qblk.out ?_)) ?_ | refine Wr.block ?_ | refine Wr.skip ?_ | refine Wr.exit ?_ | refine Wr.ret ?_ | refine Qsr.exit ?_ | refine Qsr.ret ?_ | refine Qblk.normal ?_ | refine Qblk.ret ?_ | refine Qblk.hit ?_ | refine Qblk.miss rfl ?_ | refine Wr.scope ?_ | refine Wr.label ?_ | refine Qsc.normal ?_ | refine Qsc.exit ?_ | refine Qsc.ret ?_ | refine Qloop.exit ?_ | refine Qloop.ret ?_ | refine Wr.condT rfl ?_ | refine Wr.condF rfl ?_ | refine Wl.nilP rfl ?_ | refine Wl.fieldAddr rfl rfl ?_ | refine Wl.nilF rfl ?_ | refine Wl.add rfl rfl (by omega) (by omega) ?_ | refine Wl.sub rfl rfl (by omega) (by omega) ?_ | refine Wl.mul rfl rfl (by omega) (by omega) ?_ | refine Wl.convI rfl ?_ | (refine Wl.lss rfl rfl (fun _ => ?_) (fun _ => ?_) <;> (first | (exfalso; omega) | (exfalso; contradiction) | skip)) | (refine Wl.leq rfl rfl (fun _ => ?_) (fun _ => ?_) <;> (first | (exfalso; omega) | (exfalso; contradiction) | skip)) | (refine Wl.gtr rfl rfl (fun _ => ?_) (fun _ => ?_) <;> (first | (exfalso; omega) | (exfalso; contradiction) | skip)) | (refine Wl.geq rfl rfl (fun _ => ?_) (fun _ => ?_) <;> (first | (exfalso; omega) | (exfalso; contradiction) | skip)) | (refine Wl.eql rfl rfl (fun _ => ?_) (fun _ => ?_) <;> (first | (exfalso; omega) | (exfalso; contradiction) | skip)) | (refine Wl.neq rfl rfl (fun _ => ?_) (fun _ => ?_) <;> (first | (exfalso; omega) | (exfalso; contradiction) | skip)) | (refine Wl.seql rfl rfl (fun _ => ?_) (fun _ => ?_) <;> (first | (exfalso; omega) | (exfalso; contradiction) | skip)) | (refine Wl.sneq rfl rfl (fun _ => ?_) (fun _ => ?_) <;> (first | (exfalso; omega) | (exfalso; contradiction) | skip))))
    refine Wl.alloc fun W1 c1 m1 t1 => ?_
    refine Wl.storeB (o := 0) (new := evC y) c1 rfl rfl rfl rfl (Nat.le_refl 6) (evC_one _) fun W2 c2 m2 t2 => ?_
    replace c2 : Bk W2 W.heap.size 27 (evC y) := c2
    have m02 : New W W2 := Chg.trans m1 m2 fun _ _ e => by omega
    (repeat' (first | refine Wl.moveE (by conv => { lhs; whnf }) ?_ | refine Wl.assignE (by conv => { lhs; whnf }) ?_ | refine Wl.nil ?_ | refine Wl.extract rfl rfl ?_ | refine Wl.guardY rfl rfl ?_ | refine Wl.guardN rfl rfl ?_ | refine Wl.guardU rfl ?_ | refine Wl.pickTE rfl (by conv => { lhs; whnf }) ?_ | refine Wl.pickFE rfl (by conv => { lhs; whnf }) ?_ | refine Wl.notB rfl ?_ | refine Wl.lenS rfl ?_ | refine Wl.lenStr rfl ?_ | refine Qsr.normal ?_ | refine Wr.seq ?_ | refine Wr.region rfl (by repeat' (first | exact Qfn.out (by rintro _ ⟨⟨_, e⟩, _⟩; cases e) | exact Qrd.out | exact Qas.out | refine Qsr.out ?_ | refine Qloop.out ?_ | refine Qsc.out ?_ | refine Qblk.out ?_)) ?_ | refine Wr.block ?_ | refine Wr.skip ?_ | refine Wr.exit ?_ | refine Wr.ret ?_ | refine Qsr.exit ?_ | refine Qsr.ret ?_ | refine Qblk.normal ?_ | refine Qblk.ret ?_ | refine Qblk.hit ?_ | refine Qblk.miss rfl ?_ | refine Wr.scope ?_ | refine Wr.label ?_ | refine Qsc.normal ?_ | refine Qsc.exit ?_ | refine Qsc.ret ?_ | refine Qloop.exit ?_ | refine Qloop.ret ?_ | refine Wr.condT rfl ?_ | refine Wr.condF rfl ?_ | refine Wl.nilP rfl ?_ | refine Wl.fieldAddr rfl rfl ?_ | refine Wl.nilF rfl ?_ | refine Wl.add rfl rfl (by omega) (by omega) ?_ | refine Wl.sub rfl rfl (by omega) (by omega) ?_ | refine Wl.mul rfl rfl (by omega) (by omega) ?_ | refine Wl.convI rfl ?_ | (refine Wl.lss rfl rfl (fun _ => ?_) (fun _ => ?_) <;> (first | (exfalso; omega) | (exfalso; contradiction) | skip)) | (refine Wl.leq rfl rfl (fun _ => ?_) (fun _ => ?_) <;> (first | (exfalso; omega) | (exfalso; contradiction) | skip)) | (refine Wl.gtr rfl rfl (fun _ => ?_) (fun _ => ?_) <;> (first | (exfalso; omega) | (exfalso; contradiction) | skip)) | (refine Wl.geq rfl rfl (fun _ => ?_) (fun _ => ?_) <;> (first | (exfalso; omega) | (exfalso; contradiction) | skip)) | (refine Wl.eql rfl rfl (fun _ => ?_) (fun _ => ?_) <;> (first | (exfalso; omega) | (exfalso; contradiction) | skip)) | (refine Wl.neq rfl rfl (fun _ => ?_) (fun _ => ?_) <;> (first | (exfalso; omega) | (exfalso; contradiction) | skip)) | (refine Wl.seql rfl rfl (fun _ => ?_) (fun _ => ?_) <;> (first | (exfalso; omega) | (exfalso; contradiction) | skip)) | (refine Wl.sneq rfl rfl (fun _ => ?_) (fun _ => ?_) <;> (first | (exfalso; omega) | (exfalso; contradiction) | skip))))
    refine ⟨m02, fun r' => ?_⟩
    have nL : NoC W2 (w2.heap.size + 1) := .loop ((m02.block _ (Array.getElem?_eq_some_iff.1 hL).1 id).trans hL)
    have hLt := nL.lt
    have z := n02.size
    have q1 : New w (W2.putObj (w2.heap.size + 1) (.loop r')) := (h1.trans m02).put _ (by omega)
    have q3 := (h3.new m02).put (.loop r') nL (by omega)
    have q4 := (h4.chg m02 (fun e => e)).put (.loop r') nL
    have q5 := (h5.new (plain_flat _) m02).put (.loop r') (plain_flat _) nL
    have q6 := c2.put (.loop r') nL
    have qL : NoC (W2.putObj (w2.heap.size + 1) (.loop r')) (w2.heap.size + 1) := .loop (World.putObj_heap_same hLt)
    have qD : NoC (W2.putObj (w2.heap.size + 1) (.loop r')) w2.heap.size := .mark ((World.putObj_heap_other (by omega)).trans ((m02.block _ (Array.getElem?_eq_some_iff.1 hD).1 id).trans hD))
    generalize W2.putObj (w2.heap.size + 1) (.loop r') = W3 at *
    clear m1 m2 c1 c2 h1 h3 h4 h5
    (repeat' (first | refine Wl.moveE (by conv => { lhs; whnf }) ?_ | refine Wl.assignE (by conv => { lhs; whnf }) ?_ | refine Wl.nil ?_ | refine Wl.extract rfl rfl ?_ | refine Wl.guardY rfl rfl ?_ | refine Wl.guardN rfl rfl ?_ | refine Wl.guardU rfl ?_ | refine Wl.pickTE rfl (by conv => { lhs; whnf }) ?_ | refine Wl.pickFE rfl (by conv => { lhs; whnf }) ?_ | refine Wl.notB rfl ?_ | refine Wl.lenS rfl ?_ | refine Wl.lenStr rfl ?_ | refine Qsr.normal ?_ | refine Wr.seq ?_ | refine Wr.region rfl (by repeat' (first | exact Qfn.out (by rintro _ ⟨⟨_, e⟩, _⟩; cases e) | exact Qrd.out | exact Qas.out | refine Qsr.out ?_ | refine Qloop.out ?_ | refine Qsc.out ?_ | refine Qblk.out ?_)) ?_ | refine Wr.block ?_ | refine Wr.skip ?_ | refine Wr.exit ?_ | refine Wr.ret ?_ | refine Qsr.exit ?_ | refine Qsr.ret ?_ | refine Qblk.normal ?_ | refine Qblk.ret ?_ | refine Qblk.hit ?_ | refine Qblk.miss rfl ?_ | refine Wr.scope ?_ | refine Wr.label ?_ | refine Qsc.normal ?_ | refine Qsc.exit ?_ | refine Qsc.ret ?_ | refine Qloop.exit ?_ | refine Qloop.ret ?_ | refine Wr.condT rfl ?_ | refine Wr.condF rfl ?_ | refine Wl.nilP rfl ?_ | refine Wl.fieldAddr rfl rfl ?_ | refine Wl.nilF rfl ?_ | refine Wl.add rfl rfl (by omega) (by omega) ?_ | refine Wl.sub rfl rfl (by omega) (by omega) ?_ | refine Wl.mul rfl rfl (by omega) (by omega) ?_ | refine Wl.convI rfl ?_ | (refine Wl.lss rfl rfl (fun _ => ?_) (fun _ => ?_) <;> (first | (exfalso; omega) | (exfalso; contradiction) | skip)) | (refine Wl.leq rfl rfl (fun _ => ?_) (fun _ => ?_) <;> (first | (exfalso; omega) | (exfalso; contradiction) | skip)) | (refine Wl.gtr rfl rfl (fun _ => ?_) (fun _ => ?_) <;> (first | (exfalso; omega) | (exfalso; contradiction) | skip)) | (refine Wl.geq rfl rfl (fun _ => ?_) (fun _ => ?_) <;> (first | (exfalso; omega) | (exfalso; contradiction) | skip)) | (refine Wl.eql rfl rfl (fun _ => ?_) (fun _ => ?_) <;> (first | (exfalso; omega) | (exfalso; contradiction) | skip)) | (refine Wl.neq rfl rfl (fun _ => ?_) (fun _ => ?_) <;> (first | (exfalso; omega) | (exfalso; contradiction) | skip)) | (refine Wl.seql rfl rfl (fun _ => ?_) (fun _ => ?_) <;> (first | (exfalso; omega) | (exfalso; contradiction) | skip)) | (refine Wl.sneq rfl rfl (fun _ => ?_) (fun _ => ?_) <;> (first | (exfalso; omega) | (exfalso; contradiction) | skip))))
    refine Wl.load1 rfl (q4.cell (o := 0) rfl) ?_
    refine Wl.loadB q6 rfl rfl ?_
    have zW := q1.size
    have zL := qL.lt
    refine Wl.append1 (y := y) goodEv q5 rfl rfl rfl rfl rfl (by omega) (by omega) (by simp only [maxLen, List.length_take]; omega) (by simp only [List.length_take]; omega) rfl rfl fun u' W4 p o4 d4 lie => ?_
    rw [← take_snoc' hy] at o4
    have q4' := q4.chg d4 fun e => by have := (q5.lt e).1; omega
    refine Wl.store1 q4' rfl (by simp) rfl (by obtain ⟨_, _, rfl, _⟩ := o4.form; rfl) fun W5 q7 d5 => ?_
    have z4 := d4.size
    have z5 := d5.size
    have e35 : Chg (fun j => u.ownBlock = some j ∨ j = w1.heap.size) W3 W5 := Chg.trans (d4.mono fun _ _ e => .inl e) (d5.mono fun _ _ e => .inr e) fun _ _ e => e
    have hun : ∀ j, u.ownBlock = some j → w2.heap.size ≤ j := fun j e => (q5.lt e).1
    have hu' : ∀ j, u'.ownBlock = some j → j ≠ w1.heap.size := by
      intro j e
      rcases lie with lie | lie
      · rw [lie] at e; have := hun j e; omega
      · have := lie j e; omega
    (repeat' (first | refine Wl.moveE (by conv => { lhs; whnf }) ?_ | refine Wl.assignE (by conv => { lhs; whnf }) ?_ | refine Wl.nil ?_ | refine Wl.extract rfl rfl ?_ | refine Wl.guardY rfl rfl ?_ | refine Wl.guardN rfl rfl ?_ | refine Wl.guardU rfl ?_ | refine Wl.pickTE rfl (by conv => { lhs; whnf }) ?_ | refine Wl.pickFE rfl (by conv => { lhs; whnf }) ?_ | refine Wl.notB rfl ?_ | refine Wl.lenS rfl ?_ | refine Wl.lenStr rfl ?_ | refine Qsr.normal ?_ | refine Wr.seq ?_ | refine Wr.region rfl (by repeat' (first | exact Qfn.out (by rintro _ ⟨⟨_, e⟩, _⟩; cases e) | exact Qrd.out | exact Qas.out | refine Qsr.out ?_ | refine Qloop.out ?_ | refine Qsc.out ?_ | refine Qblk.out ?_)) ?_ | refine Wr.block ?_ | refine Wr.skip ?_ | refine Wr.exit ?_ | refine Wr.ret ?_ | refine Qsr.exit ?_ | refine Qsr.ret ?_ | refine Qblk.normal ?_ | refine Qblk.ret ?_ | refine Qblk.hit ?_ | refine Qblk.miss rfl ?_ | refine Wr.scope ?_ | refine Wr.label ?_ | refine Qsc.normal ?_ | refine Qsc.exit ?_ | refine Qsc.ret ?_ | refine Qloop.exit ?_ | refine Qloop.ret ?_ | refine Wr.condT rfl ?_ | refine Wr.condF rfl ?_ | refine Wl.nilP rfl ?_ | refine Wl.fieldAddr rfl rfl ?_ | refine Wl.nilF rfl ?_ | refine Wl.add rfl rfl (by omega) (by omega) ?_ | refine Wl.sub rfl rfl (by omega) (by omega) ?_ | refine Wl.mul rfl rfl (by omega) (by omega) ?_ | refine Wl.convI rfl ?_ | (refine Wl.lss rfl rfl (fun _ => ?_) (fun _ => ?_) <;> (first | (exfalso; omega) | (exfalso; contradiction) | skip)) | (refine Wl.leq rfl rfl (fun _ => ?_) (fun _ => ?_) <;> (first | (exfalso; omega) | (exfalso; contradiction) | skip)) | (refine Wl.gtr rfl rfl (fun _ => ?_) (fun _ => ?_) <;> (first | (exfalso; omega) | (exfalso; contradiction) | skip)) | (refine Wl.geq rfl rfl (fun _ => ?_) (fun _ => ?_) <;> (first | (exfalso; omega) | (exfalso; contradiction) | skip)) | (refine Wl.eql rfl rfl (fun _ => ?_) (fun _ => ?_) <;> (first | (exfalso; omega) | (exfalso; contradiction) | skip)) | (refine Wl.neq rfl rfl (fun _ => ?_) (fun _ => ?_) <;> (first | (exfalso; omega) | (exfalso; contradiction) | skip)) | (refine Wl.seql rfl rfl (fun _ => ?_) (fun _ => ?_) <;> (first | (exfalso; omega) | (exfalso; contradiction) | skip)) | (refine Wl.sneq rfl rfl (fun _ => ?_) (fun _ => ?_) <;> (first | (exfalso; omega) | (exfalso; contradiction) | skip))))
    refine ⟨e35.block _ qL.lt ?_, e35.block _ qD.lt ?_, Chg.trans q1 e35 fun j hj e => ?_, by have := qL.lt; omega, q3.chg e35 ?_ ?_, u', q7, ?_⟩
    · rintro (e | e)
      · exact q5.nl qL e rfl
      · omega
    · rintro (e | e)
      · exact q5.nl qD e rfl
      · omega
    · rcases e with e | e
      · have := hun j e; omega
      · omega
    · rintro (e | e)
      · have := hun _ e; omega
      · omega
    · rintro j hj (e | e)
      · have := hun _ e; omega
      · omega
    · exact (o4.chg (plain_flat _) d5 fun j e e' => hu' j e e').mono goodEv.mo (fun j _ e => by rcases e with e | e <;> omega) fun _ _ e => e
  · rintro W ⟨h1, h2, h3, u, h4, h5⟩ hD
    rw [List.take_length] at h5
    (repeat' (first | refine Wl.moveE (by conv => { lhs; whnf }) ?_ | refine Wl.assignE (by conv => { lhs; whnf }) ?_ | refine Wl.nil ?_ | refine Wl.extract rfl rfl ?_ | refine Wl.guardY rfl rfl ?_ | refine Wl.guardN rfl rfl ?_ | refine Wl.guardU rfl ?_ | refine Wl.pickTE rfl (by conv => { lhs; whnf }) ?_ | refine Wl.pickFE rfl (by conv => { lhs; whnf }) ?_ | refine Wl.notB rfl ?_ | refine Wl.lenS rfl ?_ | refine Wl.lenStr rfl ?_ | refine Wd.seq ?_ | refine Wd.block ?_ | refine Wd.condT rfl ?_ | refine Wd.condF rfl ?_ | refine Qds.normal ?_ | refine Qds.exit ?_ | refine Qds.ret ?_ | refine Qdb.normal ?_ | refine Qdb.ret ?_ | refine Qdb.hit ?_ | refine Qdb.miss rfl ?_ | refine Qdn.e ?_ | refine Wd.region ?_ | refine Wd.skip ?_ | refine Wd.exit ?_ | refine Wd.ret ?_ | refine Wl.nilP rfl ?_ | refine Wl.fieldAddr rfl rfl ?_ | refine Wl.nilF rfl ?_ | refine Wl.add rfl rfl (by omega) (by omega) ?_ | refine Wl.sub rfl rfl (by omega) (by omega) ?_ | refine Wl.mul rfl rfl (by omega) (by omega) ?_ | refine Wl.convI rfl ?_ | (refine Wl.lss rfl rfl (fun _ => ?_) (fun _ => ?_) <;> (first | (exfalso; omega) | (exfalso; contradiction) | skip)) | (refine Wl.leq rfl rfl (fun _ => ?_) (fun _ => ?_) <;> (first | (exfalso; omega) | (exfalso; contradiction) | skip)) | (refine Wl.gtr rfl rfl (fun _ => ?_) (fun _ => ?_) <;> (first | (exfalso; omega) | (exfalso; contradiction) | skip)) | (refine Wl.geq rfl rfl (fun _ => ?_) (fun _ => ?_) <;> (first | (exfalso; omega) | (exfalso; contradiction) | skip)) | (refine Wl.eql rfl rfl (fun _ => ?_) (fun _ => ?_) <;> (first | (exfalso; omega) | (exfalso; contradiction) | skip)) | (refine Wl.neq rfl rfl (fun _ => ?_) (fun _ => ?_) <;> (first | (exfalso; omega) | (exfalso; contradiction) | skip)) | (refine Wl.seql rfl rfl (fun _ => ?_) (fun _ => ?_) <;> (first | (exfalso; omega) | (exfalso; contradiction) | skip)) | (refine Wl.sneq rfl rfl (fun _ => ?_) (fun _ => ?_) <;> (first | (exfalso; omega) | (exfalso; contradiction) | skip))))
    refine Wl.load1 rfl (h4.cell (o := 0) rfl) ?_
    refine Wl.call (events_spec (h5.rd goodEv.mo) (by omega)) rfl ?_
    rintro r W1 ⟨o1, m1⟩
    (repeat' (first | refine Wl.moveE (by conv => { lhs; whnf }) ?_ | refine Wl.assignE (by conv => { lhs; whnf }) ?_ | refine Wl.nil ?_ | refine Wl.extract rfl rfl ?_ | refine Wl.guardY rfl rfl ?_ | refine Wl.guardN rfl rfl ?_ | refine Wl.guardU rfl ?_ | refine Wl.pickTE rfl (by conv => { lhs; whnf }) ?_ | refine Wl.pickFE rfl (by conv => { lhs; whnf }) ?_ | refine Wl.notB rfl ?_ | refine Wl.lenS rfl ?_ | refine Wl.lenStr rfl ?_ | refine Wd.seq ?_ | refine Wd.block ?_ | refine Wd.condT rfl ?_ | refine Wd.condF rfl ?_ | refine Qds.normal ?_ | refine Qds.exit ?_ | refine Qds.ret ?_ | refine Qdb.normal ?_ | refine Qdb.ret ?_ | refine Qdb.hit ?_ | refine Qdb.miss rfl ?_ | refine Qdn.e ?_ | refine Wd.region ?_ | refine Wd.skip ?_ | refine Wd.exit ?_ | refine Wd.ret ?_ | refine Wl.nilP rfl ?_ | refine Wl.fieldAddr rfl rfl ?_ | refine Wl.nilF rfl ?_ | refine Wl.add rfl rfl (by omega) (by omega) ?_ | refine Wl.sub rfl rfl (by omega) (by omega) ?_ | refine Wl.mul rfl rfl (by omega) (by omega) ?_ | refine Wl.convI rfl ?_ | (refine Wl.lss rfl rfl (fun _ => ?_) (fun _ => ?_) <;> (first | (exfalso; omega) | (exfalso; contradiction) | skip)) | (refine Wl.leq rfl rfl (fun _ => ?_) (fun _ => ?_) <;> (first | (exfalso; omega) | (exfalso; contradiction) | skip)) | (refine Wl.gtr rfl rfl (fun _ => ?_) (fun _ => ?_) <;> (first | (exfalso; omega) | (exfalso; contradiction) | skip)) | (refine Wl.geq rfl rfl (fun _ => ?_) (fun _ => ?_) <;> (first | (exfalso; omega) | (exfalso; contradiction) | skip)) | (refine Wl.eql rfl rfl (fun _ => ?_) (fun _ => ?_) <;> (first | (exfalso; omega) | (exfalso; contradiction) | skip)) | (refine Wl.neq rfl rfl (fun _ => ?_) (fun _ => ?_) <;> (first | (exfalso; omega) | (exfalso; contradiction) | skip)) | (refine Wl.seql rfl rfl (fun _ => ?_) (fun _ => ?_) <;> (first | (exfalso; omega) | (exfalso; contradiction) | skip)) | (refine Wl.sneq rfl rfl (fun _ => ?_) (fun _ => ?_) <;> (first | (exfalso; omega) | (exfalso; contradiction) | skip))))
    refine Lv.mark (by simp) ((m1.block _ (Array.getElem?_eq_some_iff.1 hD).1 id).trans hD) ?_
    have z := n02.size
    have zW := h1.size
    have zD := m1.size
    have nD : NoC W1 w2.heap.size := .mark ((m1.block _ (Array.getElem?_eq_some_iff.1 hD).1 id).trans hD)
    refine Lv.ret (v := r) (results1 rfl (rvOf_tmp rfl)) ⟨_, rfl, (o1.put _ (plain_flat _) nD).mono goodEv.mo (fun j _ e => by omega) (fun _ _ e => e), (h1.trans m1).put _ (by omega)⟩
  · exact fun _ h => h.elim
  · exact fun _ _ h => h.elim
theorem each_spec {Pb : Nat → Prop} {w : World} {b : Nat} {t : Tr} (h : Rg Pb w b t) : Calls Tryz.prog 15 #[pT b] w (Ret fun r w' => OwnS rEv 26 6 (fun b => w.heap.size ≤ b) No w' r t.kept ∧ New w w') :=
  each_spec' (by have := h.ok.len; have := h.ok.s1; omega) (Each_spec h)
theorem each_nil {w : World} : Calls Tryz.prog 15 #[.pointer none] w (Ret fun r w' => OwnS rEv 26 6 (fun b => w.heap.size ≤ b) No w' r [] ∧ New w w') :=
  each_spec' (by simp) Each_nil
end Go.Proofs.YtjaendlcijmifaaGreatDoor

namespace Go.Proofs.YtjaendlcijmifaaGreatDoor
open Go Wk
open Go.RowKit (Below)
attribute [local irreducible] Go.Calls

section
variable {P : Program} {n : Nat} {ds : List Deferred} {Q : Po} {F : Fr} {w : World} {ops rest : List Oper} {d : Nat} {ty : TypeId} {pos : String} {aft : Array Edge}
/-- a[:k] of an array's variable. -/
theorem Wk.Wl.sliceArrTo {x i : Operand} {t e m bytes b : Nat} {agg : Bool} {z : Value} {k : IntKind} {j : Nat} [ht : Und P t (.array m e)] [he : ElT P e 1 bytes agg z] (hx : ev n F x = .pointer (some ⟨b, 0, none⟩)) (hi : ev n F i = .int k j) (h1 : j ≤ m)
    (c : Wl P n ds Q ops rest (upd F d (.slice (some ⟨b, 0, none⟩) j m)) w) : Wl P n ds Q ops (⟨some d, .slice t x none (some i) none, ty, pos, aft, none⟩ :: rest) F w := by
  refine Wl.val ?_ c
  have hr : (Instr.sliceAt t (.pointer (some ⟨b, 0, none⟩)) none (some (.int k j)) none).run P w = .ok (.slice (some ⟨b, 0, none⟩) j m) w := by
    rcases Nat.eq_zero_or_pos m with h0 | h0
    · subst h0
      obtain rfl : j = 0 := by omega
      simp [Instr.sliceAt, run_underlying ht.h, Instr.sliceBounds, Instr.sliceBound, asIntOf, he.sizeOf, Instr.sureAddr, addr_add]
    · have h2 : ¬ m = 0 := by omega
      simp [Instr.sliceAt, run_underlying ht.h, Instr.sliceBounds, Instr.sliceBound, asIntOf, he.sizeOf, Instr.sureAddr, addr_add, h1, h2]
  simp only [execOp, hx, hi, Option.map_some, Option.map_none, Sem.run_bind, hr, Result.andThen_ok, Sem.run_pure]
end
/-- The table of the powers of ten. -/
def Tb (w : World) : Prop := Lib.TabIs Tryz.prog w "internal/strconv.uint64pow10" .u64 Lib.pow10Tab
theorem Tb.new {w w' : World} (h : Tb w) (n : New w w') : Tb w' := by
  unfold Tb Lib.TabIs World.var? at *
  cases hg : Tryz.prog.globalNamed "internal/strconv.uint64pow10" with
  | none => simp [hg] at h
  | some g =>
    simp only [hg, Option.bind_some] at h ⊢
    have hlt : g < w.heap.size := by
      rcases Nat.lt_or_ge g w.heap.size with h' | h'
      · exact h'
      · rw [Array.getElem?_eq_none h'] at h; simp at h
    rw [n.block g hlt id]
    exact h
def decN (n : Nat) : List UInt8 := Lib.decDigits n
def decI (n : Int) : List UInt8 := Lib.itoa n
theorem chg_putRow {w : World} {blk off k : Nat} {d : Array UInt8} : Chg (fun j => j = blk) w ((Sort.putRow (fun (b : UInt8) => Value.int .u8 (b.toNat : Int)) w blk off d).drewN k) :=
  ⟨rfl, rfl, rfl, by simp [Sort.putRow, Sort.mapBlock, World.drewN], fun j hj hn => by
    have : ¬ blk = j := fun e => hn e.symm
    simp [Sort.putRow, Sort.mapBlock, World.drewN, Array.getElem?_modify, this]⟩
theorem bk_putRow {w : World} {blk k : Nat} {T : TypeId} {cs : List Value} {d : Array UInt8} (h : Bk w blk T cs) : ((Sort.putRow (fun (b : UInt8) => Value.int .u8 (b.toNat : Int)) w blk 0 d).drewN k).heap[blk]? = some (.cells (Sort.putCells (fun (b : UInt8) => Value.int .u8 (b.toNat : Int)) 0 d cs.toArray) T (0, 0)) := by
  unfold Bk at h
  simp [Sort.putRow, Sort.mapBlock, World.drewN, Array.getElem?_modify, h, Sort.onCells]
theorem rd_putRow {w : World} {blk k : Nat} {T : TypeId} {cs : List Value} {d : Array UInt8} {l : List UInt8} (h : Bk w blk T cs) (hl : l.length = d.size) (hc : d.size ≤ cs.length) (hm : cs.length ≤ maxLen) (he : ∀ (j : Nat) (hj : j < l.length), l[j] = d[j]!) :
    RdS (Wk.one by8) 1 (fun _ => True) ((Sort.putRow (fun (b : UInt8) => Value.int .u8 (b.toNat : Int)) w blk 0 d).drewN k) (.slice (some ⟨blk, 0, none⟩) l.length cs.length) l := by
  refine .inr (.inr ⟨blk, 0, cs.length, _, T, (0, 0), rfl, trivial, bk_putRow h, by omega, hm, ?_, fun i x hx => ?_⟩)
  · simp [Sort.putCells]; omega
  · obtain ⟨hi, hx⟩ := List.getElem?_eq_some_iff.1 hx
    have h1 : i < d.size := by omega
    have h2 : (Sort.putCells (fun (b : UInt8) => Value.int .u8 (b.toNat : Int)) 0 d cs.toArray)[i]? = some (by8 x) := by
      rw [Sort.putCells, Array.getElem?_mapIdx, List.getElem?_toArray, List.getElem?_eq_getElem (by omega), Option.map_some, if_pos ⟨Nat.zero_le _, by omega⟩, Nat.sub_zero, ← he i hi, hx]
    rw [← Array.getElem?_toList] at h2
    obtain ⟨h3, h4⟩ := List.getElem?_eq_some_iff.1 h2
    show ((Array.toList _).drop (0 + i * 1)).take 1 = [by8 x]
    rw [Nat.zero_add, Nat.mul_one, List.drop_eq_getElem_cons h3, h4]; rfl
theorem small_spec {w : World} {i : Nat} (h : i < 100) : Calls Tryz.prog 93 #[vi i] w (Ret fun r w' => r = vs (decN i) ∧ w = w') := by
  refine (Tryz.internal_strconv_small i h w).mono ?_
  rintro e w' ⟨rfl, rfl⟩
  exact ⟨_, rfl, rfl, rfl⟩
theorem numDigits_spec {w : World} {u : Nat} (ht : Tb w) (h1 : 1 ≤ u) (h2 : u < 18446744073709551616) : Calls Tryz.prog 94 #[.int .u64 u] w (Ret fun r w' => r = vi (Lib.nDigits u) ∧ w = w') := by
  refine (Tryz.internal_strconv_numDigits u h1 h2 w ht).mono ?_
  rintro e w' ⟨rfl, rfl⟩
  exact ⟨_, rfl, rfl, rfl⟩
set_option maxRecDepth 4000 in
set_option maxHeartbeats 1000000 in
theorem iFormatUint_spec {w : World} {u : Nat} (ht : Tb w) (hu : u < 18446744073709551616) :
    Calls Tryz.prog 73 #[.int .u64 u, vi 10] w (Ret fun r w' => r = vs (decN u) ∧ New w w') := by
  refine calls_of_Wc Tryz.func73 rfl Tryz.ntmps73 rfl ?_
  (repeat' (first | refine Wl.moveE (by conv => { lhs; whnf }) ?_ | refine Wl.assignE (by conv => { lhs; whnf }) ?_ | refine Wl.nil ?_ | refine Qseq.normal ?_ | refine Wc.seq ?_ | refine Wc.region ?_ | refine Wc.skip ?_ | refine Wc.condT rfl ?_ | refine Wc.condF rfl ?_ | refine Wl.convI rfl ?_ | refine Wl.lss rfl rfl (fun _ => ?_) (fun _ => ?_) | (refine Wl.eql rfl rfl (fun _ => ?_) (fun _ => ?_) <;> (first | (exfalso; omega) | skip))))
  · rw [wrap64_id (by omega) (by omega)]
    refine Wl.call (small_spec (by omega)) rfl ?_
    rintro _ _ ⟨rfl, rfl⟩
    (repeat' (first | refine Wl.assignE (by conv => { lhs; whnf }) ?_ | refine Wl.nil ?_ | refine Qseq.normal ?_ | refine Wc.ret ?_ | refine Qseq.ret ?_))
    exact Qfn.ret1 rfl rfl ⟨_, rfl, rfl, Chg.refl _ _⟩
  · have hu1 : 1 ≤ u := by omega
    have hnd20 : Lib.nDigits u ≤ 20 := by have := Lib.numDigits_eq u hu1 hu; split at this <;> omega
    refine Wl.alloc fun w1 b1 n1 s1 => ?_
    replace b1 : Bk w1 w.heap.size 129 (List.replicate 24 (.int .u8 0)) := b1
    (repeat' (first | refine Wl.moveE (by conv => { lhs; whnf }) ?_ | refine Wl.nil ?_ | refine Qseq.normal ?_ | refine Wc.seq ?_ | refine Wc.region ?_))
    refine Wl.call (numDigits_spec (ht.new n1) hu1 hu) rfl ?_
    rintro _ _ ⟨rfl, rfl⟩
    (repeat' (first | refine Wl.moveE (by conv => { lhs; whnf }) ?_ | refine Wl.assignE (by conv => { lhs; whnf }) ?_ | refine Wl.nil ?_ | refine Qseq.normal ?_ | refine Wc.seq ?_ | refine Wc.region ?_))
    refine Wl.sliceArrTo (j := Lib.nDigits u) rfl rfl (by omega) ?_
    (repeat' (refine Wl.moveE (by conv => { lhs; whnf }) ?_))
    have hH : Sort.Holds (fun (b : UInt8) => Value.int .u8 (b.toNat : Int)) w1 w.heap.size 0 (Array.replicate (Lib.nDigits u) (0 : UInt8)) := fun j hj => by
      have hj' : j < Lib.nDigits u := by simpa using hj
      refine ⟨?_, b1.frozen _⟩
      rw [Nat.zero_add, b1.cell (u := .int .u8 0) (by rw [List.getElem?_replicate, if_pos (by omega)])]
      simp [hj']
    have hfmt := Tryz.internal_strconv_formatBase10 w.heap.size 0 24 u (Array.replicate (Lib.nDigits u) 0) w1 hH (by rw [Array.size_replicate]; exact Lib.lt_pow_nDigits u) hu (by rw [Array.size_replicate]; omega)
    rw [Array.size_replicate] at hfmt
    refine Wl.call (φ := fun r w' => ∃ (k v' : Nat) (dk : Array UInt8), w' = (Sort.putRow (fun (b : UInt8) => Value.int .u8 (b.toNat : Int)) w1 w.heap.size 0 dk).drewN k ∧ Lib.FmtInv (Lib.nDigits u) u 0 v' dk) (hfmt.mono fun e w' h => ⟨_, h.1, h.2⟩) rfl ?_
    rintro r _ ⟨k, v', dk, rfl, hF⟩
    have hds : dk.size = Lib.nDigits u := hF.size
    have hr := rd_putRow (k := k) (d := dk) (l := Lib.decDigits u) b1 (by rw [Lib.decDigits_length, hds]) (by rw [hds, List.length_replicate]; omega) (by rw [List.length_replicate]; decide) fun j hj => Lib.row_is_numeral hF j hj
    have c2 := chg_putRow (w := w1) (blk := w.heap.size) (off := 0) (k := k) (d := dk)
    generalize (Sort.putRow (fun (b : UInt8) => Value.int .u8 (b.toNat : Int)) w1 w.heap.size 0 dk).drewN k = w2 at hr c2 ⊢
    (repeat' (first | refine Wl.moveE (by conv => { lhs; whnf }) ?_ | refine Wl.nil ?_ | refine Qseq.normal ?_ | refine Wc.seq ?_ | refine Wc.region ?_))
    refine Wl.sliceArrTo (j := Lib.nDigits u) rfl rfl (by omega) ?_
    rw [← Lib.decDigits_length]
    refine Wl.bytesStr hr rfl ?_
    (repeat' (first | refine Wl.assignE (by conv => { lhs; whnf }) ?_ | refine Wl.nil ?_ | refine Qseq.normal ?_ | refine Wc.ret ?_ | refine Qseq.ret ?_))
    exact Qfn.ret1 rfl rfl ⟨_, rfl, rfl, Chg.trans n1 c2 fun j hj e => by omega⟩
theorem FormatUint_spec {w : World} {u : Nat} (ht : Tb w) (hu : u < 18446744073709551616) :
    Calls Tryz.prog 42 #[.int .u64 u, vi 10] w (Ret fun r w' => r = vs (decN u) ∧ New w w') := by
  refine calls_of_Wc Tryz.func42 rfl Tryz.ntmps42 rfl ?_
  (repeat' (first | refine Wl.moveE (by conv => { lhs; whnf }) ?_ | refine Wl.assignE (by conv => { lhs; whnf }) ?_ | refine Wl.nil ?_ | refine Qseq.normal ?_ | refine Wc.seq ?_ | refine Wc.region ?_))
  refine Wl.call (iFormatUint_spec ht hu) rfl ?_
  rintro _ w1 ⟨rfl, n1⟩
  (repeat' (first | refine Wl.assignE (by conv => { lhs; whnf }) ?_ | refine Wl.nil ?_ | refine Qseq.normal ?_ | refine Wc.ret ?_))
  exact Qfn.ret1 rfl rfl ⟨_, rfl, rfl, n1⟩
theorem FormatInt_spec {w : World} {x : Int} (ht : Tb w) (h0 : -9223372036854775808 ≤ x) (h1 : x ≤ 9223372036854775807) :
    Calls Tryz.prog 43 #[vi x, vi 10] w (Ret fun r w' => r = vs (decI x) ∧ New w w') := by
  refine (Tryz.strconv_FormatInt_10 x h0 h1 w ht).mono ?_
  rintro e w' ⟨rfl, k, os, rfl⟩
  exact ⟨_, rfl, rfl, New.ofBelow (Lib.below_grow _ w (Nat.le_refl _) k os)⟩
theorem nDigits_le {u : Nat} (hu : u < 18446744073709551616) : Lib.nDigits u ≤ 20 := by
  rcases Nat.eq_zero_or_pos u with h | h
  · subst h; rw [Lib.nDigits_small (by omega)]; omega
  · have := Lib.numDigits_eq u h hu; split at this <;> omega
theorem decN_len {u : Nat} (hu : u < 18446744073709551616) : (decN u).length ≤ 20 := by unfold decN; rw [Lib.decDigits_length]; exact nDigits_le hu
theorem decI_len {x : Int} (h0 : -9223372036854775808 ≤ x) (h1 : x ≤ 9223372036854775807) : (decI x).length ≤ 21 := by
  unfold decI Lib.itoa
  split
  · have := nDigits_le (u := x.natAbs) (by omega)
    rw [List.length_cons, Lib.decDigits_length]; omega
  · have := nDigits_le (u := x.toNat) (by omega)
    rw [Lib.decDigits_length]; omega
end Go.Proofs.YtjaendlcijmifaaGreatDoor

namespace Go.Proofs.YtjaendlcijmifaaGreatDoor.Wk
open Go Go.RowKit

section
variable {P : Program} {r : Option Nat} {md : Region.Mode} {ops : Array Oper} {Q : Exit → Act → World → Prop}
theorem opIn_of (hout : ¬ LetsOut Q) (hpl : ∀ (i : Nat) (o : Oper), ops[i]? = some o → ∀ c, o.op ≠ .defer c) {i : Nat} {K K' : Act → World → Prop} (hK : ∀ a w, K a w → K' a w) {a : Act} {w : World} (h : wpOp P ops Q i K a w) : wpOpIn (FR r) 0 P ops Q i K' a w := by
  have triv : ∀ f, (FR r).fn f := by cases r <;> exact fun _ => trivial
  unfold wpOp at h
  unfold wpOpIn
  split
  · rename_i ho
    rw [ho] at h; exact hK _ _ h
  · rename_i o ho
    simp only [ho] at h
    split
    · rename_i hw
      rw [if_pos hw] at h
      rcases h with h | ⟨_, h⟩
      · refine ⟨fun f _ => triv f, ?_⟩
        rw [Oper.semAt_eq _ _ _ (hpl i o ho)]
        exact uponIn_of hK h
      · exact absurd h hout
    · rename_i hw
      rw [if_neg hw] at h
      exact ⟨fun f _ => triv f, hK _ _ h⟩
theorem anyIn_of (hout : ¬ LetsOut Q) (hpl : ∀ (i : Nat) (o : Oper), ops[i]? = some o → ∀ c, o.op ≠ .defer c) : ∀ (fuel : Nat) (listed : Array Bool) (a : Act) (w : World), wpAny P md ops Q fuel listed a w → wpAnyIn (FR r) 0 P md ops Q fuel listed a w
  | 0, _, _, _, h => h
  | fuel + 1, _, _, _, h => ⟨h.1, fun i hi => opIn_of hout hpl (fun a w h' => anyIn_of hout hpl fuel _ a w h') (h.2 i hi)⟩
end
section
variable {P : Program} {n : Nat} {r : Option Nat} {ops : List Oper} {Q : Po} {F : Fr} {w : World}
theorem Wr.regionT {rid : Nat} (hpl : plainL ops = true) (hQ : ∀ F w, ¬ Q .outgrown F w) (hm : P.follows .mixedOrders = true) (hB : okT ops.toArray = true) (C : World → Prop) (hC : C w.drew) (h : ∀ w', New w w' → Wt P n [] C Q ops ops F w') : Wr P n r Q (.region rid ops.toArray true) F w := by
  unfold Wr
  refine wpIn_region_any hm (anyIn_of (fun hx => by obtain ⟨a, w, F', _, hq⟩ := hx; exact hQ F' w hq) (fun i o ho c e => ?_) _ _ _ _ ?_)
  · unfold plainL at hpl
    have := List.all_eq_true.1 hpl o (List.mem_of_getElem? (by simpa using ho))
    rw [e] at this; cases this
  have hleft : left ops.toArray (Array.replicate ops.toArray.size false) = (List.range ops.length).map (0 + ·) := by
    unfold left
    rw [show ((fun x => 0 + x) : Nat → Nat) = id from funext fun x => Nat.zero_add x, List.map_id]
    simp only [List.size_toArray]
    refine List.filter_eq_self.2 fun k hk => ?_
    have := List.mem_range.1 hk
    simp [Array.getD_eq_getD_getElem?, Array.getElem?_replicate, this]
  have h0 : Clos ops.toArray (Array.replicate ops.toArray.size false) := by
    intro j o hj
    exfalso
    simp only [Array.getD_eq_getD_getElem?, Array.getElem?_replicate] at hj
    split at hj <;> simp at hj
  refine wpAny_of_TS (C := C) hB _ _ _ _ (by simp) (by rw [hleft]; simp) h0 (fun _ => hC) ?_
  rw [hleft]
  exact TS_of_Wt ops 0 F w.drew (fun j => by rw [Nat.zero_add]) (h _ (Chg.drew _ _))
end
end Go.Proofs.YtjaendlcijmifaaGreatDoor.Wk

namespace Go.Proofs.YtjaendlcijmifaaGreatDoor
open Go Wk
open Go.RowKit (Below)
attribute [local irreducible] Go.Calls

/-- An event's line. -/
def lineH (x : Ev) : List UInt8 := decN x.id ++ [32] ++ decI x.tm ++ [32] ++ nameK x.kd ++ [32] ++ x.pa ++ [32] ++ decI x.ar
def lineM (x : Ev) : List UInt8 := if x.ca = 0 then lineH x else lineH x ++ ([32, 98, 121, 32] ++ decN x.ca)
theorem nameK_len (k : Nat) : (nameK k).length ≤ 6 := by
  rcases Nat.lt_or_ge k 10 with h | h
  · have : ∀ k : Fin 10, (nameK k.val).length ≤ 6 := by decide
    exact this ⟨k, h⟩
  · rw [nameK_big h]; simp
theorem lineM_len {x : Ev} (hw : EvW x) : (lineM x).length ≤ x.pa.length + 100 := by
  have h1 := decN_len hw.id
  have h2 := decI_len hw.t0 hw.t1
  have h3 := nameK_len x.kd
  have h4 := decI_len hw.a0 hw.a1
  have h5 := decN_len hw.ca
  unfold lineM lineH
  split <;> simp only [List.length_append, List.length_cons, List.length_nil] <;> omega
set_option maxRecDepth 4000 in
set_option maxHeartbeats 1000000 in
theorem line_spec {w : World} {x : Ev} (ht : Tb w) (hw : EvW x) (hl : x.pa.length ≤ 100000000) :
    Calls Tryz.prog 28 #[evV x] w (Ret fun r w' => r = vs (lineM x) ∧ New w w') := by
  have h1 := decN_len hw.id
  have h2 := decI_len hw.t0 hw.t1
  have h3 := nameK_len x.kd
  have h4 := decI_len hw.a0 hw.a1
  have h5 := decN_len hw.ca
  refine calls_of_Wc Tryz.func28 rfl Tryz.ntmps28 rfl ?_
  (repeat' (first | refine Wc.seq ?_ | refine Wc.region ?_))
  refine Wl.box rfl fun w1 b1 n1 s1 => ?_
  replace b1 : Bk w1 w.heap.size 27 (evC x) := b1
  (repeat' (first | refine Wl.assignE (by conv => { lhs; whnf }) ?_ | refine Wl.nil ?_ | refine Qseq.normal ?_ | refine Wc.seq ?_))
  refine Wc.regionT rfl (by kernel_rfl) (New w1) (Chg.drew _ _) ?_
  have bx : ∀ w', New w1 w' → Bk w' w.heap.size 27 (evC x) := fun w' n => b1.chg n (fun e => e)
  have tx : ∀ {w'}, New w1 w' → Tb w' := fun n => ht.new (n1.trans n)
  intro w2 n2
  (repeat' (refine Wt.quiet rfl (Wq.fieldAddr rfl rfl (Wq.nil ?_))))
  refine Wt.quiet rfl (Wq.load1 rfl (fun w' n => (bx w' n).cell (o := 0) rfl) (Wq.nil ?_))
  refine Wt.chain rfl (Wl.call (FormatUint_spec (tx n2) hw.id) rfl ?_)
  rintro _ w3 ⟨rfl, n3⟩
  replace n3 := n2.trans n3
  refine Wl.nil ⟨rfl, n3, ?_⟩
  refine Wt.quiet rfl (Wq.sadd rfl rfl (by simp only [List.length_append, List.length_cons, List.length_nil]; omega) (Wq.nil ?_))
  (repeat' (refine Wt.quiet rfl (Wq.fieldAddr rfl rfl (Wq.nil ?_))))
  refine Wt.quiet rfl (Wq.load1 rfl (fun w' n => (bx w' n).cell (o := 2) rfl) (Wq.nil ?_))
  refine Wt.chain rfl (Wl.call (FormatInt_spec (tx n3) hw.t0 hw.t1) rfl ?_)
  rintro _ w4 ⟨rfl, n4⟩
  replace n4 := n3.trans n4
  refine Wl.nil ⟨rfl, n4, ?_⟩
  refine Wt.quiet rfl (Wq.sadd rfl rfl (by simp only [List.length_append, List.length_cons, List.length_nil]; omega) (Wq.nil ?_))
  refine Wt.quiet rfl (Wq.sadd rfl rfl (by simp only [List.length_append, List.length_cons, List.length_nil]; omega) (Wq.nil ?_))
  (repeat' (refine Wt.quiet rfl (Wq.fieldAddr rfl rfl (Wq.nil ?_))))
  refine Wt.quiet rfl (Wq.load1 rfl (fun w' n => (bx w' n).cell (o := 3) rfl) (Wq.nil ?_))
  refine Wt.chain rfl (Wl.call (name_spec hw.kd) rfl ?_)
  rintro _ w5 ⟨rfl, n5⟩
  replace n5 := n4.trans n5
  refine Wl.nil ⟨rfl, n5, ?_⟩
  refine Wt.quiet rfl (Wq.sadd rfl rfl (by simp only [List.length_append, List.length_cons, List.length_nil]; omega) (Wq.nil ?_))
  refine Wt.quiet rfl (Wq.sadd rfl rfl (by simp only [List.length_append, List.length_cons, List.length_nil]; omega) (Wq.nil ?_))
  (repeat' (refine Wt.quiet rfl (Wq.fieldAddr rfl rfl (Wq.nil ?_))))
  refine Wt.quiet rfl (Wq.load1 rfl (fun w' n => (bx w' n).cell (o := 4) rfl) (Wq.nil ?_))
  refine Wt.quiet rfl (Wq.sadd rfl rfl (by simp only [List.length_append, List.length_cons, List.length_nil]; omega) (Wq.nil ?_))
  refine Wt.quiet rfl (Wq.sadd rfl rfl (by simp only [List.length_append, List.length_cons, List.length_nil]; omega) (Wq.nil ?_))
  (repeat' (refine Wt.quiet rfl (Wq.fieldAddr rfl rfl (Wq.nil ?_))))
  refine Wt.quiet rfl (Wq.load1 rfl (fun w' n => (bx w' n).cell (o := 5) rfl) (Wq.nil ?_))
  refine Wt.chain rfl (Wl.call (FormatInt_spec (tx n5) hw.a0 hw.a1) rfl ?_)
  rintro _ w6 ⟨rfl, n6⟩
  replace n6 := n5.trans n6
  refine Wl.nil ⟨rfl, n6, ?_⟩
  refine Wt.quiet rfl (Wq.sadd rfl rfl (by simp only [List.length_append, List.length_cons, List.length_nil]; omega) (Wq.nil ?_))
  (repeat' (first | refine Wt.nil ?_ | refine Wt.quiet rfl (Wq.assignE (by conv => { lhs; whnf }) (Wq.nil ?_))))
  have hH : decN x.id ++ [32] ++ decI x.tm ++ [32] ++ nameK x.kd ++ [32] ++ x.pa ++ [32] ++ decI x.ar = lineH x := rfl
  have hHl : (lineH x).length ≤ x.pa.length + 80 := by unfold lineH; simp only [List.length_append, List.length_cons, List.length_nil]; omega
  rw [hH]
  have b6 := bx _ n6
  (repeat' (first | refine Qseq.normal ?_ | refine Wc.seq ?_ | refine Wc.region ?_ | refine Wl.fieldAddr rfl rfl ?_))
  refine Wl.load1 rfl (b6.cell (o := 1) rfl) ?_
  have n06 := n1.trans n6
  (repeat' (first | refine Wl.moveE (by conv => { lhs; whnf }) ?_ | refine Wl.assignE (by conv => { lhs; whnf }) ?_ | refine Wl.nil ?_ | refine Qseq.normal ?_ | refine Wc.seq ?_ | refine Wc.region ?_ | refine Wc.skip ?_ | refine Wc.ret ?_ | refine Wc.condT rfl ?_ | refine Wc.condF rfl ?_ | refine Wl.fieldAddr rfl rfl ?_ | refine Wl.gtr rfl rfl (fun _ => ?_) (fun _ => ?_)))
  · refine Wl.load1 rfl (b6.cell (o := 1) rfl) ?_
    refine Wl.call (FormatUint_spec (tx n6) hw.ca) rfl ?_
    rintro _ w7 ⟨rfl, n7⟩
    refine Wl.sadd rfl rfl (by simp only [List.length_cons, List.length_nil]; omega) ?_
    refine Wl.sadd rfl rfl (by simp only [List.length_append, List.length_cons, List.length_nil]; omega) ?_
    (repeat' (first | refine Wl.moveE (by conv => { lhs; whnf }) ?_ | refine Wl.assignE (by conv => { lhs; whnf }) ?_ | refine Wl.nil ?_ | refine Qseq.normal ?_ | refine Wc.seq ?_ | refine Wc.region ?_ | refine Wc.ret ?_))
    refine Qfn.ret1 rfl rfl ⟨_, rfl, ?_, n06.trans n7⟩
    unfold lineM
    rw [if_neg (by omega)]; rfl
  · refine Qfn.ret1 rfl rfl ⟨_, rfl, ?_, n06⟩
    unfold lineM
    rw [if_pos (by omega)]; rfl
end Go.Proofs.YtjaendlcijmifaaGreatDoor

namespace Go.Proofs.YtjaendlcijmifaaGreatDoor
open Go Wk
open Go.RowKit (Below)
attribute [local irreducible] Go.Calls

theorem splitR_sum (c : UInt8) : ∀ l : List UInt8, ((splitR c l).map fun x => x.length + 1).sum = l.length + 1
  | [] => rfl
  | b :: l => by
    have ih := splitR_sum c l
    rw [splitR]
    split
    · rw [List.map_cons, List.sum_cons, ih]; simp; omega
    · have hne := splitR_ne c l
      revert ih hne
      generalize splitR c l = q
      intro ih hne
      cases q with
      | nil => exact absurd rfl hne
      | cons h t => simp only [List.map_cons, List.sum_cons, List.length_cons] at ih ⊢; omega
theorem sum_le_mul {m : Nat} : ∀ {l : List Nat}, (∀ x ∈ l, x ≤ m) → l.sum ≤ l.length * m
  | [], _ => by simp
  | x :: l, h => by
    have h1 := sum_le_mul (l := l) fun y hy => h y (by simp [hy])
    have h2 := h x (by simp)
    rw [List.sum_cons, List.length_cons, Nat.add_mul]; omega
theorem pathM_len {s : List UInt8} (h : pathM s = true) : s.length ≤ 1000 := by
  unfold pathM at h
  rcases Bool.or_eq_true _ _ ▸ h with h | h
  · rw [of_decide_eq_true h]; simp
  · simp only [Bool.and_eq_true, Bool.not_eq_true', List.any_eq_false, decide_eq_true_eq] at h
    obtain ⟨⟨⟨h0, h1⟩, h2⟩, h3⟩ := h
    have hs := splitR_sum 47 s
    have hle : ∀ x ∈ (splitR 47 s).map fun x => x.length + 1, x ≤ 32 := by
      intro x hx
      obtain ⟨y, hy, rfl⟩ := List.mem_map.1 hx
      obtain ⟨k, hk⟩ := List.mem_iff_getElem?.1 hy
      cases k with
      | zero =>
        rw [h0] at hk
        cases hk; simp
      | succ k =>
        have hm : y ∈ (splitR 47 s).drop 1 := List.mem_iff_getElem?.2 ⟨k, by rw [List.getElem?_drop, Nat.add_comm]; exact hk⟩
        have := h3 y hm
        cases hn : nameOk y with
        | false => rw [hn] at this; exact absurd rfl this
        | true =>
          unfold nameOk at hn
          rw [Bool.and_eq_true] at hn
          have := of_decide_eq_true hn.1
          omega
    have := sum_le_mul hle
    rw [List.length_map] at this
    have h4 : (splitR 47 s).length * 32 ≤ 16 * 32 := Nat.mul_le_mul_right _ h2
    omega
theorem goodS : GoodR (Wk.one vs) 1 := good_one _ fun _ => rfl
set_option maxHeartbeats 2000000 in
theorem Lines_spec' {w : World} {p : Value} {l : List Ev} (ht : Tb w) (hl : l.length ≤ 1000000) (hw : ∀ e ∈ l, EvW e ∧ e.pa.length ≤ 100000000) (hE : ∀ w', New w w' → Calls Tryz.prog 27 #[p] w' (Ret fun r w'' => SeqAt (fun k => w'.heap.size ≤ k) w'' r l ∧ New w' w'')) :
    Calls Tryz.prog 14 #[p] w (Ret fun r w' => OwnS (Wk.one vs) 9 1 (fun b => w.heap.size ≤ b) No w' r (l.map lineM) ∧ New w w') := by
  refine calls_of_Wd Tryz.func14 rfl Tryz.ntmps14 rfl ?_
  (repeat' (first | refine Wl.assignE (by conv => { lhs; whnf }) ?_ | refine Wl.nil ?_ | refine Wd.seq ?_ | refine Qds.normal ?_ | refine Wd.region ?_))
  refine Wl.alloc fun w1 b1 n1 s1 => ?_
  replace b1 : Bk w1 w.heap.size 45 [.slice none 0 0] := b1
  (repeat' (first | refine Wl.moveE (by conv => { lhs; whnf }) ?_ | refine Wl.nil ?_ | refine Wd.seq ?_ | refine Qds.normal ?_ | refine Wd.region ?_))
  refine Wl.call (hE w1 n1) rfl ?_
  intro f w2 hh
  obtain ⟨⟨bs, sv, rfl, hbs, hb2, hr2⟩, n2⟩ := hh
  have b2 := b1.chg n2 (fun e => e)
  have hq2 : SqR (fun k => w1.heap.size ≤ k ∧ k < w2.heap.size) bs sv l w2 := ⟨hb2, hr2.mono (mono_flat _) fun k hk e => ⟨e, hk⟩⟩
  have hbl := hb2.lt
  have n02 := n1.trans n2
  have z1 := n1.size
  have z2 := n2.size
  clear hb2 hr2 b1
  let I : Nat → World → Prop := fun k W => New w W ∧ w2.heap.size ≤ W.heap.size ∧ SqR (fun k => w1.heap.size ≤ k ∧ k < w2.heap.size) bs sv l W ∧ ∃ u, Bk W w.heap.size 45 [u] ∧ OwnS (Wk.one vs) 9 1 (fun j => w2.heap.size ≤ j) No W u ((l.take k).map lineM)
  (repeat' (first | refine Wl.nil ?_ | refine Wd.block ?_ | refine Qds.normal ?_))
  refine Wd.range (gf := 71) (lb := #[pT bs]) rfl (fun args _ => run_callFunc inferInstance args) (iter_values (Pb := fun k => w1.heap.size ≤ k ∧ k < w2.heap.size) (bs := bs) (v := sv) (l := l)) I (fun _ _ => False) ?_ ?_ ?_ ?_ ?_ ?_ ?_ ?_ ?_
  · exact fun k W h => h.2.2.1
  · rintro k W W' ⟨h1, h2, h3, u, h4, h5⟩ n
    exact ⟨h1.trans n, Nat.le_trans h2 n.size, h3.new n, u, h4.chg n (fun e => e), h5.new (plain_one _) n⟩
  · rintro k W r r' ⟨h1, h2, h3, u, h4, h5⟩ hL
    exact ⟨h1.put _ (by omega), by simpa using h2, h3.put _ (.loop hL) (by omega), u, h4.put _ (.loop hL), h5.put _ (plain_one _) (.loop hL)⟩
  · exact fun _ _ _ _ h => h.elim
  · intro r
    have n := Chg.loop (w := w2) (.deferred (some [])) (.loop r)
    exact ⟨n02.trans n, n.size, hq2.new n, _, b2.chg n (fun e => e), OwnS.nil⟩
  · rintro k W r hk ⟨h1, h2, h3, u, h4, h5⟩ hL hD
    obtain ⟨y, hy⟩ := get_lt l hk
    obtain ⟨hyw, hyl⟩ := hw y (List.mem_of_getElem? hy)
    show Wr _ _ _ _ _ (upd _ 7 (evV (l.getD k ev0))) W
    rw [getD_of hy]
    (repeat' (refine Wr.region rfl (by repeat' (first | exact Qfn.out (by rintro _ ⟨⟨_, e⟩, _⟩; cases e) | exact Qrd.out | exact Qas.out | refine Qsr.out ?_ | refine Qloop.out ?_ | refine Qsc.out ?_ | refine Qblk.out ?_)) ?_))
    refine Wl.alloc fun W1 c1 m1 t1 => ?_
    refine Wl.storeB (o := 0) (new := evC y) c1 rfl rfl rfl rfl (Nat.le_refl 6) (evC_one _) fun W2 c2 m2 t2 => ?_
    replace c2 : Bk W2 W.heap.size 27 (evC y) := c2
    have m02 : New W W2 := Chg.trans m1 m2 fun _ _ e => by omega
    (repeat' (refine Wl.nil ?_))
    refine ⟨m02, fun r' => ?_⟩
    have nL : NoC W2 (w2.heap.size + 1) := .loop ((m02.block _ (Array.getElem?_eq_some_iff.1 hL).1 id).trans hL)
    have hLt := nL.lt
    have q1 : New w (W2.putObj (w2.heap.size + 1) (.loop r')) := (h1.trans m02).put _ (by omega)
    have q3 := (h3.new m02).put (.loop r') nL (by omega)
    have q4 := (h4.chg m02 (fun e => e)).put (.loop r') nL
    have q5 := (h5.new (plain_one _) m02).put (.loop r') (plain_one _) nL
    have q6 := c2.put (.loop r') nL
    have qL : NoC (W2.putObj (w2.heap.size + 1) (.loop r')) (w2.heap.size + 1) := .loop (World.putObj_heap_same hLt)
    have qD : NoC (W2.putObj (w2.heap.size + 1) (.loop r')) w2.heap.size := .mark ((World.putObj_heap_other (by omega)).trans ((m02.block _ (Array.getElem?_eq_some_iff.1 hD).1 id).trans hD))
    have hu1 : ∀ j, u.ownBlock = some j → w2.heap.size ≤ j ∧ j < W.heap.size := fun j e => h5.lt e
    generalize W2.putObj (w2.heap.size + 1) (.loop r') = W3 at *
    clear m1 m2 c1 c2 h1 h3 h4 h5
    have zW := q1.size
    have zL := qL.lt
    have z6 := q6.lt
    obtain ⟨ua, ucp, hu0, _⟩ := q5.form
    (repeat' (refine Wr.block ?_))
    refine Wr.regionT rfl (by repeat' (first | exact Qfn.out (by rintro _ ⟨⟨_, e⟩, _⟩; cases e) | exact Qrd.out | exact Qas.out | refine Qsr.out ?_ | refine Qloop.out ?_ | refine Qsc.out ?_ | refine Qblk.out ?_)) rfl (by kernel_rfl) (fun W' => Chg (fun j => u.ownBlock = some j) W3 W') (Chg.drew _ _) ?_
    intro W4 m4
    have bk4 : ∀ W', Chg (fun j => u.ownBlock = some j) W3 W' → Bk W' w.heap.size 45 [u] := fun W' c => q4.chg c fun e => by have := hu1 _ e; omega
    skip
    refine Wt.quiet rfl (Wq.load1 rfl (fun W' c => (bk4 W' c).cell (o := 0) rfl) (Wq.nil ?_))
    refine Wt.quiet rfl (Wq.loadAt (fun W' c => (q6.chg c fun e => by have := hu1 _ e; omega).at) rfl rfl (Wq.nil ?_))
    refine Wt.chain rfl (Wl.call (line_spec (ht.new (q1.trans m4)) hyw hyl) rfl ?_)
    rintro _ W5 ⟨rfl, m5⟩
    replace m5 := m4.trans m5
    refine Wl.nil ⟨rfl, m5.any, ?_⟩
    refine Wt.chain rfl (Wl.buildSlice1 (R := Wk.one vs) (Pe := No) (y := lineM y) goodS rfl rfl rfl rfl (by omega) (by omega) fun v6 W6 o6 n6 s6 e6 => ?_)
    have m6 := m5.trans n6
    refine Wl.nil ⟨rfl, m6.any, ?_⟩
    refine Wt.chain rfl (Wl.appendAll (R := Wk.one vs) goodS (q5.new (plain_one _) m6) (o6.rd goodS.mo) (fun y cs hy => hy) rfl rfl (by omega) (by simp only [maxLen, List.length_map, List.length_take, List.length_singleton]; omega) (by simp only [List.length_map, List.length_take, List.length_singleton]; omega) fun u' W7 o7 c7 lie _ => ?_)
    rw [show (l.take k).map lineM ++ [lineM y] = (l.take (k + 1)).map lineM by rw [take_snoc' hy, List.map_append]; rfl] at o7
    have c37 : Chg (fun j => u.ownBlock = some j) W3 W7 := Chg.trans m6.any c7 fun _ _ e => e
    refine Wl.nil ⟨rfl, c37, ?_⟩
    have zm6 := m6.size
    have hu' : ∀ j, u'.ownBlock = some j → j ≠ w.heap.size := by
      intro j e
      rcases lie with lie | lie
      · rw [lie] at e; have := hu1 j e; omega
      · have := lie j e; omega
    refine Wt.last rfl (Wl.store1 (bk4 W7 c37) rfl (by simp) rfl (by obtain ⟨_, _, rfl, _⟩ := o7.form; rfl) fun W8 q8 d8 => ?_)
    have z7 := c7.size
    have z8 := d8.size
    have e38 : Chg (fun j => u.ownBlock = some j ∨ j = w.heap.size) W3 W8 := Chg.trans (c37.mono fun _ _ e => .inl e) (d8.mono fun _ _ e => .inr e) fun _ _ e => e
    (repeat' (first | refine Wl.nil ?_ | refine Qblk.normal ?_))
    refine ⟨e38.block _ qL.lt ?_, e38.block _ qD.lt ?_, Chg.trans q1 e38 fun j hj e => ?_, by omega, q3.chg e38 ?_ ?_, u', q8, ?_⟩
    · rintro (e | e)
      · exact q5.nl qL e rfl
      · omega
    · rintro (e | e)
      · exact q5.nl qD e rfl
      · omega
    · rcases e with e | e
      · have := hu1 j e; omega
      · omega
    · rintro (e | e)
      · have := hu1 _ e; omega
      · omega
    · rintro j hj (e | e)
      · have := hu1 _ e; omega
      · omega
    · exact (o7.chg (plain_one _) d8 fun j e e' => hu' j e e').mono goodS.mo (fun j _ e => by rcases e with e | e <;> omega) fun _ _ e => e
  · rintro W ⟨h1, h2, h3, u, h4, h5⟩ hD
    rw [List.take_length] at h5
    (repeat' (first | refine Wd.seq ?_ | refine Qds.normal ?_ | refine Qdb.normal ?_ | refine Wd.region ?_))
    refine Wl.load1 rfl (h4.cell (o := 0) rfl) ?_
    (repeat' (first | refine Wl.assignE (by conv => { lhs; whnf }) ?_ | refine Wl.nil ?_ | refine Qds.normal ?_ | refine Wd.ret ?_))
    refine Lv.mark (by simp) hD ?_
    have nD : NoC W w2.heap.size := .mark hD
    refine Lv.ret (v := u) (results1 rfl (rvOf_tmp rfl)) ⟨_, rfl, (h5.put _ (plain_one _) nD).mono goodS.mo (fun j _ e => by omega) (fun _ _ e => e), h1.put _ (by omega)⟩
  · exact fun _ h => h.elim
  · exact fun _ _ h => h.elim
theorem TrOk.evs {t : Tr} (h : TrOk t) : ∀ e ∈ t.kept, EvW e ∧ e.pa.length ≤ 100000000 := fun e he => by
  obtain ⟨h1, _, h3⟩ := h.ok e he
  exact ⟨h1, by have := pathM_len h3; omega⟩
def linesM (t : Tr) : List (List UInt8) := t.kept.map lineM
theorem Lines_spec {Pb : Nat → Prop} {w : World} {b : Nat} {t : Tr} (ht : Tb w) (h : Rg Pb w b t) : Calls Tryz.prog 14 #[pT b] w (Ret fun r w' => OwnS (Wk.one vs) 9 1 (fun b => w.heap.size ≤ b) No w' r (linesM t) ∧ New w w') :=
  Lines_spec' ht (by have := h.ok.len; have := h.ok.s1; omega) h.ok.evs fun w' n => Each_spec (h.new n)
theorem Lines_nil {w : World} (ht : Tb w) : Calls Tryz.prog 14 #[.pointer none] w (Ret fun r w' => OwnS (Wk.one vs) 9 1 (fun b => w.heap.size ≤ b) No w' r [] ∧ New w w') :=
  Lines_spec' (l := []) ht (by simp) (fun e he => by simp at he) fun w' n => Each_nil
theorem neqL {α : Type} {a b : List α} {x y : α} {i : Nat} (ha : a[i]? = some x) (hb : b[i]? = some y) (h : x ≠ y) : a ≠ b := by
  rintro rfl
  rw [ha] at hb
  exact h (Option.some.inj hb)
theorem take_full {α : Type} {a b : List α} {i : Nat} (hl : a.length = b.length) (hi : i = a.length) (h : a.take i = b.take i) : a = b := by
  subst hi
  rw [List.take_length, hl, List.take_length] at h; exact h
theorem take_both {α : Type} {a b : List α} {x : α} {i : Nat} (h : a.take i = b.take i) (ha : a[i]? = some x) (hb : b[i]? = some x) : a.take (i + 1) = b.take (i + 1) := by
  rw [take_snoc' ha, take_snoc' hb, h]
theorem texts_spec {Pb Pc : Nat → Prop} {w : World} {u v : Value} {a b : List (List UInt8)} (h : RdS (Wk.one vs) 1 Pb w u a) (h' : RdS (Wk.one vs) 1 Pc w v b) :
    Calls Tryz.prog 21 #[u, v] w (Ret fun r w' => r = .bool (decide (a = b)) ∧ New w w') := by
  obtain ⟨p, cp, rfl, hc1, hc2⟩ := h.form
  obtain ⟨q, cq, rfl, hd1, hd2⟩ := h'.form
  simp only [maxLen] at hc2 hd2
  refine calls_of_Wc Tryz.func21 rfl Tryz.ntmps21 rfl ?_
  (repeat' (first | refine Wl.moveE (by conv => { lhs; whnf }) ?_ | refine Wl.assignE (by conv => { lhs; whnf }) ?_ | refine Wl.nil ?_ | refine Wl.lenS rfl ?_ | refine Qseq.normal ?_ | refine Wc.seq ?_ | refine Wc.region ?_ | refine Wc.block ?_ | refine Wc.skip ?_ | refine Wc.ret ?_ | refine Qseq.ret ?_ | refine Wc.condT rfl ?_ | refine Wc.condF rfl ?_ | refine Wl.neq rfl rfl (fun _ => ?_) (fun _ => ?_)))
  · refine Qfn.ret1 rfl rfl ⟨_, rfl, ?_, Chg.refl _ _⟩
    rw [decide_eq_false (fun e => by subst e; omega)]; rfl
  · have hl : a.length = b.length := by omega
    refine Wc.loop (σ := Nat) (fun i => [(0, .slice p a.length cp), (1, .slice q b.length cq), (5, vi i)]) (fun i w' => i ≤ a.length ∧ a.take i = b.take i ∧ New w w') (fun i => a.length - i) 0 ⟨rfl, rfl, rfl, trivial⟩ ⟨Nat.zero_le _, rfl, Chg.refl _ _⟩ ?_
    rintro i G w1 ⟨hi, he, n1⟩
    simp only [upds]
    have g := h.keep (stable_one _) n1.keep
    have g' := h'.keep (stable_one _) n1.keep
    (repeat' (first | refine Wl.moveE (by conv => { lhs; whnf }) ?_ | refine Wl.assignE (by conv => { lhs; whnf }) ?_ | refine Wl.nil ?_ | refine Wl.lenS rfl ?_ | refine Qseq.normal ?_ | refine Wc.seq ?_ | refine Wc.region ?_ | refine Wc.block ?_ | refine Wc.skip ?_ | refine Wc.exit ?_ | refine Wc.ret ?_ | refine Qseq.exit ?_ | refine Qblk.hit ?_ | refine Qloop.exit ?_ | refine Wc.condT rfl ?_ | refine Wc.condF rfl ?_ | refine Wl.lss rfl rfl (fun _ => ?_) (fun _ => ?_)))
    · obtain ⟨x, hx⟩ := get_lt a (k := i) (by omega)
      obtain ⟨y, hy⟩ := get_lt b (k := i) (by omega)
      refine Wc.regionN rfl (by kernel_rfl) ?_
      (repeat' (refine Wq.moveE (by conv => { lhs; whnf }) ?_))
      refine Wq.idxAddrV g (fun w' n => n.keep) rfl rfl (by omega) (by rw [Int.toNat_natCast]; exact hx) fun bb o hc => ?_
      refine Wq.load1 rfl hc ?_
      (repeat' (refine Wq.moveE (by conv => { lhs; whnf }) ?_))
      refine Wq.idxAddrV g' (fun w' n => n.keep) rfl rfl (by omega) (by rw [Int.toNat_natCast]; exact hy) fun bb' o' hc' => ?_
      refine Wq.load1 rfl hc' ?_
      (repeat' (first | refine Wq.nil ?_ | refine Wq.sneq rfl rfl (fun _ => ?_) (fun _ => ?_)))
      · intro w2 n2
        have hne : x ≠ y := by assumption
        (repeat' (first | refine Wl.assignE (by conv => { lhs; whnf }) ?_ | refine Wl.nil ?_ | refine Qseq.normal ?_ | refine Wc.seq ?_ | refine Wc.region ?_ | refine Wc.ret ?_ | refine Qseq.ret ?_ | refine Qblk.ret ?_ | refine Qloop.ret ?_ | refine Wc.condT rfl ?_))
        refine Qfn.ret1 rfl rfl ⟨_, rfl, ?_, n1.trans n2⟩
        rw [decide_eq_false (neqL hx hy hne)]; rfl
      · intro w2 n2
        have hxy : x = y := by assumption
        subst hxy
        (repeat' (first | refine Wl.moveE (by conv => { lhs; whnf }) ?_ | refine Wl.assignE (by conv => { lhs; whnf }) ?_ | refine Wl.nil ?_ | refine Qseq.normal ?_ | refine Wc.region ?_ | refine Wc.skip ?_ | refine Qblk.normal ?_ | refine Wc.condF rfl ?_ | refine Wl.add rfl rfl (by omega) (by omega) ?_))
        exact Qloop.normal (i + 1) ⟨rfl, rfl, rfl, trivial⟩ ⟨by omega, take_both he hx hy, n1.trans n2⟩ (by omega)
    · refine Qfn.ret1 rfl rfl ⟨_, rfl, ?_, n1⟩
      rw [decide_eq_true (take_full hl (by omega) he)]; rfl
end Go.Proofs.YtjaendlcijmifaaGreatDoor

namespace Go.Proofs.YtjaendlcijmifaaGreatDoor
open Go Wk
open Go.RowKit (Below)
attribute [local irreducible] Go.Calls

theorem nat_dig {u : Nat} (h : u < 10) : decN u = [UInt8.ofNat (48 + u)] := Lib.decDigits_one h
theorem nat_dig2 {u : Nat} (h1 : ¬ u < 10) (h2 : u < 100) : decN u = [UInt8.ofNat (48 + u / 10), UInt8.ofNat (48 + u % 10)] := Lib.decDigits_two h1 h2
theorem int_dig (u : Nat) : decI (u : Int) = decN u := Lib.itoa_nonneg u
def aw1 : Tr := ⟨3, 0, [⟨1, 0, 10, 1, [47, 97], 0⟩]⟩
def aw2 : Tr := ⟨3, 0, [⟨1, 0, 10, 1, [47, 97], 0⟩, ⟨2, 1, 12, 3, [47, 97], 5⟩]⟩
theorem pathA : pathM [47, 97] = true := by decide
theorem aw1_add : (⟨3, 0, []⟩ : Tr).add 0 10 1 [47, 97] 0 = (1, 0, aw1) := by
  unfold Tr.add
  rw [if_neg (by simp [Tr.last, pathA]; decide), if_neg (by simp [Tr.last])]
  rfl
theorem aw2_add : aw1.add 1 12 3 [47, 97] 5 = (2, 0, aw2) := by
  unfold Tr.add
  rw [if_neg (by simp [Tr.last, aw1, pathA]; decide), if_neg (by simp [Tr.last, aw1])]
  rfl
theorem aw_lines : linesM aw2 = [[49, 32, 49, 48, 32, 98, 105, 110, 100, 32, 47, 97, 32, 48], [50, 32, 49, 50, 32, 111, 110, 32, 47, 97, 32, 53, 32, 98, 121, 32, 49]] := by
  have e0 : decI 0 = [48] := (int_dig 0).trans (nat_dig (by omega))
  have e5 : decI 5 = [53] := (int_dig 5).trans (nat_dig (by omega))
  have e10 : decI 10 = [49, 48] := (int_dig 10).trans (nat_dig2 (by omega) (by omega))
  have e12 : decI 12 = [49, 50] := (int_dig 12).trans (nat_dig2 (by omega) (by omega))
  have d1 : decN 1 = [49] := nat_dig (by omega)
  have d2 : decN 2 = [50] := nat_dig (by omega)
  simp only [linesM, aw2, List.map_cons, List.map_nil, lineM, lineH, e0, e5, e10, e12, d1, d2]
  rfl
set_option maxHeartbeats 1000000 in
theorem awake_spec {w : World} (ht : Tb w) : Calls Tryz.prog 8 #[] w (Ret fun r w' => r = .bool true ∧ New w w') := by
  refine calls_of_Wc Tryz.func8 rfl Tryz.ntmps8 rfl ?_
  (repeat' (first | refine Wl.assignE (by conv => { lhs; whnf }) ?_ | refine Wl.nil ?_ | refine Qseq.normal ?_ | refine Wc.seq ?_ | refine Wc.region ?_))
  refine Wl.call (New_spec (n := 3)) rfl ?_
  rintro r w1 ⟨hr, n1⟩
  rcases hr with ⟨hr, _⟩ | ⟨_, _, b, rfl, h1⟩
  · omega
  have z1 := n1.size
  replace h1 : Rg (fun k => w.heap.size ≤ k) w1 b ⟨3, 0, []⟩ := h1
  (repeat' (first | refine Wl.moveE (by conv => { lhs; whnf }) ?_ | refine Wl.assignE (by conv => { lhs; whnf }) ?_ | refine Wl.nil ?_ | refine Wl.extract rfl rfl ?_ | refine Qseq.normal ?_ | refine Wc.seq ?_ | refine Wc.region ?_))
  refine Wl.call (Add_spec (ca := 0) (tm := 10) (kd := 1) (pa := [47, 97]) (ar := 0) h1 ⟨by omega, by omega, by omega, by omega, by omega, by omega⟩ (by simp)) rfl ?_
  rintro _ w2 ⟨rfl, h2, c2⟩
  rw [aw1_add] at h2 ⊢
  have n2 : New w w2 := Chg.trans n1 c2 fun k hk e => by omega
  have z2 := n2.size
  (repeat' (first | refine Wl.moveE (by conv => { lhs; whnf }) ?_ | refine Wl.assignE (by conv => { lhs; whnf }) ?_ | refine Wl.nil ?_ | refine Wl.extract rfl rfl ?_ | refine Qseq.normal ?_ | refine Wc.seq ?_ | refine Wc.region ?_))
  refine Wl.call (Add_spec (ca := 1) (tm := 12) (kd := 3) (pa := [47, 97]) (ar := 5) (h2.mono (Pb' := fun k => w.heap.size ≤ k) fun k _ e => by rcases e with e | e <;> omega) ⟨by omega, by omega, by omega, by omega, by omega, by omega⟩ (by simp)) rfl ?_
  rintro _ w3 ⟨rfl, h3, c3⟩
  rw [aw2_add] at h3 ⊢
  have n3 : New w w3 := Chg.trans n2 c3 fun k hk e => by omega
  have z3 := n3.size
  (repeat' (first | refine Wl.moveE (by conv => { lhs; whnf }) ?_ | refine Wl.assignE (by conv => { lhs; whnf }) ?_ | refine Wl.nil ?_ | refine Wl.extract rfl rfl ?_ | refine Wl.guardY rfl rfl ?_ | refine Wl.pickTE rfl (by conv => { lhs; whnf }) ?_ | refine Qseq.normal ?_ | refine Wc.seq ?_ | refine Wc.region ?_ | (refine Wl.eql rfl rfl (fun _ => ?_) (fun _ => ?_) <;> (first | (exfalso; omega) | (exfalso; contradiction) | skip))))
  refine Wl.call (Lines_spec (ht.new n3) h3) rfl ?_
  rintro l w4 ⟨o4, n4⟩
  rw [aw_lines] at o4
  have r4 := o4.rd goodS.mo
  (repeat' (refine Wl.guardY rfl rfl ?_))
  refine Wl.buildSliceN (R := Wk.one vs) (Pe := fun _ => True) (xs := [[49, 32, 49, 48, 32, 98, 105, 110, 100, 32, 47, 97, 32, 48], [50, 32, 49, 50, 32, 111, 110, 32, 47, 97, 32, 53, 32, 98, 121, 32, 49]]) (us := [vs [49, 32, 49, 48, 32, 98, 105, 110, 100, 32, 47, 97, 32, 48], vs [50, 32, 49, 50, 32, 111, 110, 32, 47, 97, 32, 53, 32, 98, 121, 32, 49]]) goodS rfl rfl ⟨rfl, rfl, rfl, rfl, trivial⟩ (by simp) (by simp) fun v5 w5 o5 n5 s5 e5 => ?_
  (repeat' (refine Wl.guardY rfl rfl ?_))
  refine Wl.call (texts_spec (r4.keep (stable_one _) n5.keep) (o5.rd goodS.mo)) rfl ?_
  rintro _ w6 ⟨rfl, n6⟩
  rw [decide_eq_true rfl]
  (repeat' (first | refine Wl.assignE (by conv => { lhs; whnf }) ?_ | refine Wl.nil ?_ | refine Wl.pickTE rfl (by conv => { lhs; whnf }) ?_ | refine Qseq.normal ?_ | refine Wc.ret ?_))
  exact Qfn.ret1 rfl rfl ⟨_, rfl, rfl, ((n3.trans n4).trans n5).trans n6⟩
end Go.Proofs.YtjaendlcijmifaaGreatDoor

namespace Go.Proofs.YtjaendlcijmifaaGreatDoor
open Go Wk
open Go.RowKit (Below)
attribute [local irreducible] Go.Calls

deriving instance DecidableEq for Ev
def eqS (d : Nat) (xs ys : Array Value) : List (Bool × TypeId × Nat) → Sem Bool
  | [] => pure true
  | (g, t, o) :: fs =>
    if g = true then do
      let a ← part t xs o
      let b ← part t ys o
      let r ← Op.equalIn d t a b
      if (!r) = true then pure false else eqS d xs ys fs
    else eqS d xs ys fs
theorem eqS_map {d : Nat} {xs ys : Array Value} : ∀ {fs : List Field} {l : List (Bool × TypeId × Nat)}, fs.map (fun f => (decide (f.name ≠ "_"), f.type, f.offset)) = l → Op.eqFields d xs ys fs = eqS d xs ys l := by
  intro fs
  induction fs with
  | nil => rintro l rfl; rfl
  | cons f fs ih =>
    rintro l rfl
    simp only [List.map_cons, Op.eqFields, eqS, decide_eq_true_eq, ih rfl]
theorem run_eqS_nil {P : Program} {w : World} {d : Nat} {xs ys : Array Value} : (eqS d xs ys []).run P w = .ok true w := rfl
theorem run_eqS {P : Program} {w : World} {d : Nat} {xs ys : Array Value} {t : TypeId} {o : Nat} {a b : Value} {r : Bool} {l : List (Bool × TypeId × Nat)} (hp : P.plainKey t = true) (ha : xs[o]? = some a) (hb : ys[o]? = some b) (hr : (Op.equalIn d t a b).run P w = .ok r w) :
    (eqS d xs ys ((true, t, o) :: l)).run P w = if r = true then (eqS d xs ys l).run P w else .ok false w := by
  simp only [eqS, if_true, Sem.run_bind, run_part_plain w hp ha, run_part_plain w hp hb, Result.andThen_ok, hr]
  cases r <;> simp [Sem.run_pure]
theorem ev_neqS {x y : Ev} {w : World} : (binOp .neq 26 (evV x) (evV y)).run Tryz.prog w = .ok (.bool (!decide (x = y))) w := by
  rw [run_neq_struct, run_equalIn_struct w 9999 _ _ _ (by kernel_rfl) (by kernel_rfl), eqS_map (l := [(true, 24, 0), (true, 24, 1), (true, 2, 2), (true, 5, 3), (true, 9, 4), (true, 2, 5)]) (by kernel_rfl)]
  rw [run_eqS (by kernel_rfl) rfl rfl (run_equalIn_int w 9998 _ .u64 .u64 _ _ Tryz.underlying24), run_eqS (by kernel_rfl) rfl rfl (run_equalIn_int w 9998 _ .u64 .u64 _ _ Tryz.underlying24),
    run_eqS (by kernel_rfl) rfl rfl (run_equalIn_int w 9998 _ .i64 .i64 _ _ Tryz.underlying2), run_eqS (by kernel_rfl) rfl rfl (run_equalIn_int w 9998 _ .u8 .u8 _ _ Tryz.underlying5),
    run_eqS (by kernel_rfl) rfl rfl (run_equalIn_string w 9998 _ _ _ Tryz.underlying9), run_eqS (by kernel_rfl) rfl rfl (run_equalIn_int w 9998 _ .i64 .i64 _ _ Tryz.underlying2), run_eqS_nil]
  simp only [beq_iff_eq, ByteArray.toList_eq]
  obtain ⟨x0, x1, x2, x3, x4, x5⟩ := x
  obtain ⟨y0, y1, y2, y3, y4, y5⟩ := y
  dsimp only
  by_cases h : (⟨x0, x1, x2, x3, x4, x5⟩ : Ev) = ⟨y0, y1, y2, y3, y4, y5⟩
  · rw [decide_eq_true h]
    cases h
    simp
  · rw [decide_eq_false h]
    simp only [Ev.mk.injEq] at h
    repeat' split
    all_goals first | rfl | (exfalso; simp_all; omega) | skip
set_option maxHeartbeats 1000000 in
theorem SameS_spec {Pb Pc : Nat → Prop} {w : World} {u v : Value} {a b : List Ev} (h : RdS rEv 6 Pb w u a) (h' : RdS rEv 6 Pc w v b) :
    Calls Tryz.prog 6 #[u, v] w (Ret fun r w' => r = .bool (decide (a = b)) ∧ New w w') := by
  obtain ⟨p, cp, rfl, hc1, hc2⟩ := h.form
  obtain ⟨q, cq, rfl, hd1, hd2⟩ := h'.form
  simp only [maxLen] at hc2 hd2
  refine calls_of_Wc Tryz.func6 rfl Tryz.ntmps6 rfl ?_
  (repeat' (first | refine Wl.moveE (by conv => { lhs; whnf }) ?_ | refine Wl.assignE (by conv => { lhs; whnf }) ?_ | refine Wl.nil ?_ | refine Wl.lenS rfl ?_ | refine Qseq.normal ?_ | refine Wc.seq ?_ | refine Wc.region ?_ | refine Wc.block ?_ | refine Wc.skip ?_ | refine Wc.ret ?_ | refine Qseq.ret ?_ | refine Wc.condT rfl ?_ | refine Wc.condF rfl ?_ | refine Wl.neq rfl rfl (fun _ => ?_) (fun _ => ?_)))
  · refine Qfn.ret1 rfl rfl ⟨_, rfl, ?_, Chg.refl _ _⟩
    rw [decide_eq_false (fun e => by subst e; omega)]; rfl
  · have hl : a.length = b.length := by omega
    refine Wc.loop (σ := Nat) (fun i => [(0, .slice p a.length cp), (1, .slice q b.length cq), (5, vi i)]) (fun i w' => i ≤ a.length ∧ a.take i = b.take i ∧ New w w') (fun i => a.length - i) 0 ⟨rfl, rfl, rfl, trivial⟩ ⟨Nat.zero_le _, rfl, Chg.refl _ _⟩ ?_
    rintro i G w1 ⟨hi, he, n1⟩
    simp only [upds]
    have g := h.keep (stable_flat _) n1.keep
    have g' := h'.keep (stable_flat _) n1.keep
    (repeat' (first | refine Wl.moveE (by conv => { lhs; whnf }) ?_ | refine Wl.assignE (by conv => { lhs; whnf }) ?_ | refine Wl.nil ?_ | refine Wl.lenS rfl ?_ | refine Qseq.normal ?_ | refine Wc.seq ?_ | refine Wc.region ?_ | refine Wc.block ?_ | refine Wc.skip ?_ | refine Wc.exit ?_ | refine Wc.ret ?_ | refine Qseq.exit ?_ | refine Qblk.hit ?_ | refine Qloop.exit ?_ | refine Wc.condT rfl ?_ | refine Wc.condF rfl ?_ | refine Wl.lss rfl rfl (fun _ => ?_) (fun _ => ?_)))
    · obtain ⟨x, hx⟩ := get_lt a (k := i) (by omega)
      obtain ⟨y, hy⟩ := get_lt b (k := i) (by omega)
      refine Wc.regionN rfl (by kernel_rfl) ?_
      (repeat' (refine Wq.moveE (by conv => { lhs; whnf }) ?_))
      refine Wq.idxAddr g (fun w' n => n.keep) rfl rfl (by omega) (by rw [Int.toNat_natCast]; exact hx) fun bb o cs hcl hR hat => ?_
      obtain rfl : cs = evC x := hR
      refine Wq.loadAt hat rfl rfl ?_
      (repeat' (refine Wq.moveE (by conv => { lhs; whnf }) ?_))
      refine Wq.idxAddr g' (fun w' n => n.keep) rfl rfl (by omega) (by rw [Int.toNat_natCast]; exact hy) fun bb' o' cs' hcl' hR' hat' => ?_
      obtain rfl : cs' = evC y := hR'
      refine Wq.loadAt hat' rfl rfl ?_
      refine Wq.val (v := .bool (!decide (x = y))) (fun w' n => ?_) ?_
      · simp only [execOp]
        rw [show ev 26 _ _ = evV x from rfl, show ev 26 _ _ = evV y from rfl]
        rw [Sem.run_bind, Sem.run_bind, run_eqGuard_agg w' _ _ _ _ _ _ (by kernel_rfl), Result.andThen_ok, ev_neqS, Result.andThen_ok, Sem.run_pure]
      (repeat' (refine Wq.nil ?_))
      intro w2 n2
      by_cases hxy : x = y
      · subst hxy
        rw [decide_eq_true rfl]
        (repeat' (first | refine Wl.moveE (by conv => { lhs; whnf }) ?_ | refine Wl.assignE (by conv => { lhs; whnf }) ?_ | refine Wl.nil ?_ | refine Qseq.normal ?_ | refine Wc.region ?_ | refine Wc.skip ?_ | refine Qblk.normal ?_ | refine Wc.condF rfl ?_ | refine Wl.add rfl rfl (by omega) (by omega) ?_))
        exact Qloop.normal (i + 1) ⟨rfl, rfl, rfl, trivial⟩ ⟨by omega, take_both he hx hy, n1.trans n2⟩ (by omega)
      · rw [decide_eq_false hxy]
        (repeat' (first | refine Wl.assignE (by conv => { lhs; whnf }) ?_ | refine Wl.nil ?_ | refine Qseq.normal ?_ | refine Wc.seq ?_ | refine Wc.region ?_ | refine Wc.ret ?_ | refine Qseq.ret ?_ | refine Qblk.ret ?_ | refine Qloop.ret ?_ | refine Wc.condT rfl ?_))
        refine Qfn.ret1 rfl rfl ⟨_, rfl, ?_, n1.trans n2⟩
        rw [decide_eq_false (neqL hx hy hxy)]; rfl
    · refine Qfn.ret1 rfl rfl ⟨_, rfl, ?_, n1⟩
      rw [decide_eq_true (take_full hl (by omega) he)]; rfl
end Go.Proofs.YtjaendlcijmifaaGreatDoor

namespace Go.Proofs.YtjaendlcijmifaaGreatDoor
open Go Wk

structure Dv where
  bo : Bool
  on : Bool
  sl : Bool
  go : Bool
def dv0 : Dv := ⟨false, false, false, false⟩
def mayM (d : Dv) : Nat → Bool
  | 1 => !d.go && !d.bo
  | 2 => d.bo && (!d.on && !d.sl)
  | 3 => !d.on && !d.go
  | 4 => d.on
  | 5 => d.bo && !d.sl
  | 6 => d.sl
  | 7 => d.go
  | 8 => !d.go && (!d.bo && !d.on)
  | 9 => true
  | _ => false
def doM (d : Dv) : Nat → Dv
  | 1 => ⟨true, d.on, d.sl, d.go⟩
  | 2 => ⟨false, d.on, d.sl, d.go⟩
  | 3 => ⟨d.bo, true, d.sl, d.go⟩
  | 4 => ⟨d.bo, false, d.sl, d.go⟩
  | 5 => ⟨d.bo, d.on, true, d.go⟩
  | 6 => ⟨d.bo, d.on, false, d.go⟩
  | 7 => ⟨d.bo, d.on, d.sl, false⟩
  | 8 => ⟨d.bo, d.on, d.sl, true⟩
  | _ => d
abbrev DS := List (List UInt8 × Dv)
def look (S : DS) (p : List UInt8) : Option Dv := (S.find? fun e => decide (e.1 = p)).map (·.2)
def putD (S : DS) (p : List UInt8) (d : Dv) : DS := if (look S p).isSome then S.map (fun e => if e.1 = p then (p, d) else e) else S ++ [(p, d)]
/-- One event: a path and a kind. -/
def stepD (S : DS) (p : List UInt8) (k : Nat) : Option DS :=
  if nameK k ≠ [] ∧ pathM p = true ∧ mayM ((look S p).getD dv0) k = true then some (putD S p (doM ((look S p).getD dv0) k)) else none
def playS : List (List UInt8 × Nat) → Nat → DS → Nat ⊕ DS
  | [], _, S => .inr S
  | x :: r, i, S => match stepD S x.1 x.2 with
    | none => .inl i
    | some S' => playS r (i + 1) S'
def pk (e : Ev) : List UInt8 × Nat := (e.pa, e.kd)
def playM (l : List Ev) : Nat ⊕ DS := playS (l.map pk) 0 []

theorem look_none {S : DS} {p : List UInt8} : look S p = none ↔ ∀ e ∈ S, e.1 ≠ p := by
  unfold look; rw [Option.map_eq_none_iff, List.find?_eq_none]; simp
theorem look_some {S : DS} {p : List UInt8} {d : Dv} (h : look S p = some d) : (p, d) ∈ S := by
  unfold look at h
  obtain ⟨e, he, rfl⟩ := Option.map_eq_some_iff.1 h
  have h1 := List.find?_some he
  have h2 := List.mem_of_find?_eq_some he
  have h3 : e.1 = p := by simpa using h1
  rw [← h3]; exact h2
/-- Each path stands once. -/
def Keys (S : DS) : Prop := S.Pairwise fun a b => a.1 ≠ b.1
theorem Keys.uniq {S : DS} (h : Keys S) {p : List UInt8} {a b : Dv} (ha : (p, a) ∈ S) (hb : (p, b) ∈ S) : a = b := by
  induction S with
  | nil => simp at ha
  | cons e S ih =>
    obtain ⟨h1, h2⟩ := List.pairwise_cons.1 h
    rcases List.mem_cons.1 ha with ha | ha <;> rcases List.mem_cons.1 hb with hb | hb
    · rw [← hb] at ha; exact (Prod.mk.inj ha).2
    · exact absurd (by rw [← ha]) (h1 _ hb)
    · exact absurd (by rw [← hb]) (h1 _ ha)
    · exact ih h2 ha hb
theorem Keys.look {S : DS} (h : Keys S) {p : List UInt8} {d : Dv} (hd : (p, d) ∈ S) : look S p = some d := by
  cases hl : Go.Proofs.YtjaendlcijmifaaGreatDoor.look S p with
  | none => exact absurd rfl (look_none.1 hl _ hd)
  | some e => rw [h.uniq (look_some hl) hd]
theorem Keys.perm {S R : DS} (h : Keys S) (hp : R.Perm S) : Keys R := (hp.pairwise_iff fun h => h.symm).2 h
theorem look_perm {S R : DS} (h : Keys S) (hp : R.Perm S) (p : List UInt8) : look R p = look S p := by
  cases hl : look S p with
  | none => exact look_none.2 fun e he => look_none.1 hl e (hp.mem_iff.1 he)
  | some d => exact (h.perm hp).look (hp.mem_iff.2 (look_some hl))
theorem keys_map {S : DS} (h : Keys S) (p : List UInt8) (d : Dv) : Keys (S.map fun e => if e.1 = p then (p, d) else e) := by
  unfold Keys at h ⊢
  rw [List.pairwise_map]
  refine h.imp fun {a b} hab => ?_
  have e : ∀ x : List UInt8 × Dv, (if x.1 = p then (p, d) else x).1 = x.1 := fun x => by split <;> simp_all
  rw [e, e]; exact hab
theorem Keys.put {S : DS} (h : Keys S) (p : List UInt8) (d : Dv) : Keys (putD S p d) := by
  unfold putD
  split
  · exact keys_map h p d
  · rename_i hn
    unfold Keys
    rw [List.pairwise_append]
    refine ⟨h, List.pairwise_singleton _ _, fun a ha b hb => ?_⟩
    rw [List.mem_singleton.1 hb]
    exact look_none.1 (by simpa using hn) a ha
theorem look_put {S : DS} (p : List UInt8) (d : Dv) (q : List UInt8) : look (putD S p d) q = if q = p then some d else look S q := by
  unfold putD
  split
  · rename_i hs
    unfold look
    rw [List.find?_map]
    have e : ((fun e : List UInt8 × Dv => decide (e.1 = q)) ∘ fun e => if e.1 = p then (p, d) else e) = fun e => decide (e.1 = q) := by
      funext x; simp only [Function.comp]; congr 1; split <;> simp_all
    rw [e]
    by_cases hq : q = p
    · subst hq
      rw [if_pos rfl]
      obtain ⟨e', he'⟩ := Option.isSome_iff_exists.1 hs
      unfold look at he'
      obtain ⟨x, hx, _⟩ := Option.map_eq_some_iff.1 he'
      have := List.find?_some hx
      rw [hx]; simp_all
    · rw [if_neg hq]
      cases hf : S.find? fun e => decide (e.1 = q) with
      | none => rfl
      | some x =>
        have h1 := List.find?_some hf
        have h2 : x.1 = q := by simpa using h1
        simp [h2, hq]
  · rename_i hs
    have hn : look S p = none := by simpa using hs
    unfold look
    rw [List.find?_append]
    by_cases hq : q = p
    · subst hq
      rw [if_pos rfl]
      have : S.find? (fun e => decide (e.1 = q)) = none := by
        rw [List.find?_eq_none]; intro x hx; simpa using look_none.1 hn x hx
      rw [this]; simp
    · rw [if_neg hq]
      have : List.find? (fun e : List UInt8 × Dv => decide (e.1 = q)) [(p, d)] = none := by simp; exact fun e => hq e.symm
      rw [this]; cases S.find? (fun e => decide (e.1 = q)) <;> rfl
/-- The same devices, in order. -/
def SortOf (S R : DS) : Prop := R.Perm S ∧ R.Pairwise fun a b => a.1 < b.1
theorem SortOf.uniq {S R R' : DS} (h : SortOf S R) (h' : SortOf S R') : R = R' := by
  refine List.Perm.eq_of_pairwise (le := fun a b => a.1 < b.1) ?_ h.2 h'.2 (h.1.trans h'.1.symm)
  intro a b _ _ hab hba
  exact absurd hba (List.lt_asymm hab)
theorem SortOf.keys {S R : DS} (h : SortOf S R) : Keys R := h.2.imp fun {a b} (hab : a.1 < b.1) (e : a.1 = b.1) => List.lt_irrefl b.1 (by rw [e] at hab; exact hab)
theorem lt_of_not {a b : List UInt8} (h1 : ¬ a < b) (h2 : a ≠ b) : b < a := by
  by_cases h : b < a
  · exact h
  · exact absurd (List.le_antisymm (List.not_lt.1 h) (List.not_lt.1 h1)) h2
end Go.Proofs.YtjaendlcijmifaaGreatDoor

namespace Go.Proofs.YtjaendlcijmifaaGreatDoor
open Go Wk

theorem putD_keys (S : DS) (p : List UInt8) (d : Dv) (hs : look S p ≠ none) : putD S p d = S.map fun e => if e.1 = p then (p, d) else e := by
  unfold putD; rw [if_pos (by cases h : look S p <;> simp_all)]
theorem putD_new (S : DS) (p : List UInt8) (d : Dv) (hs : look S p = none) : putD S p d = S ++ [(p, d)] := by
  unfold putD; rw [hs]; rfl
section
variable {S R : DS} {p : List UInt8} {k : Nat}
theorem pair_at {α : Type} {r : α → α → Prop} {l : List α} (h : l.Pairwise r) {i j : Nat} {a b : α} (hij : i < j) (ha : l[i]? = some a) (hb : l[j]? = some b) : r a b := by
  have hi := (List.getElem?_eq_some_iff.1 ha)
  have hj := (List.getElem?_eq_some_iff.1 hb)
  have := List.pairwise_iff_getElem.1 h i j hi.1 hj.1 hij
  rwa [hi.2, hj.2] at this
/-- It stands there. -/
theorem SortOf.there (h : SortOf S R) (hk : Keys S) {d d' : Dv} (hp : R[k]? = some (p, d)) : look S p = some d ∧ SortOf (putD S p d') (R.set k (p, d')) := by
  have hl : look S p = some d := hk.look (h.1.mem_iff.1 (List.mem_of_getElem? hp))
  have e : R.set k (p, d') = R.map fun e => if e.1 = p then (p, d') else e := by
    apply List.ext_getElem?
    intro i
    rw [List.getElem?_set, List.getElem?_map]
    have hlt := (List.getElem?_eq_some_iff.1 hp).1
    by_cases hik : k = i
    · subst hik; rw [if_pos rfl, if_pos hlt, hp]; simp
    · rw [if_neg hik]
      cases hi : R[i]? with
      | none => rfl
      | some x =>
        have hne : x.1 ≠ p := by
          intro e
          rcases Nat.lt_or_gt_of_ne hik with hlt | hlt
          · have := pair_at h.keys hlt hp hi; exact this e.symm
          · have := pair_at h.keys hlt hi hp; exact this e
        simp [hne]
  refine ⟨hl, ?_, ?_⟩
  · rw [putD_keys _ _ _ (by rw [hl]; simp), e]
    exact h.1.map _
  · rw [e, List.pairwise_map]
    refine h.2.imp fun {a b} hab => ?_
    have e : ∀ x : List UInt8 × Dv, (if x.1 = p then (p, d') else x).1 = x.1 := fun x => by split <;> simp_all
    rw [e, e]; exact hab
/-- It does not stand there. -/
theorem SortOf.fresh (h : SortOf S R) {d' : Dv} (hlo : ∀ (i : Nat) (x : List UInt8 × Dv), i < k → R[i]? = some x → x.1 < p) (hhi : ∀ x, R[k]? = some x → p < x.1) (hkl : k ≤ R.length) :
    look S p = none ∧ SortOf (putD S p d') (R.take k ++ (p, d') :: R.drop k) := by
  have hafter : ∀ (i : Nat) (x : List UInt8 × Dv), k ≤ i → R[i]? = some x → p < x.1 := by
    intro i x hki hx
    rcases Nat.lt_or_eq_of_le hki with hlt | rfl
    · obtain ⟨y, hy⟩ := get_lt R (k := k) (by have := (List.getElem?_eq_some_iff.1 hx).1; omega)
      exact List.lt_trans (hhi y hy) (pair_at h.2 hlt hy hx)
    · exact hhi x hx
  have hn : look S p = none := look_none.2 fun e he hep => by
    obtain ⟨i, hi⟩ := List.mem_iff_getElem?.1 (h.1.mem_iff.2 he)
    rcases Nat.lt_or_ge i k with hik | hik
    · exact List.lt_irrefl p (by have := hlo i e hik hi; rwa [hep] at this)
    · exact List.lt_irrefl p (by have := hafter i e hik hi; rwa [hep] at this)
  refine ⟨hn, ?_, ?_⟩
  · rw [putD_new _ _ _ hn]
    have h1 : (R.take k ++ (p, d') :: R.drop k).Perm ((p, d') :: (R.take k ++ R.drop k)) := List.perm_middle
    rw [List.take_append_drop] at h1
    exact h1.trans ((h.1.cons _).trans (List.perm_append_comm (l₁ := [(p, d')])))
  · rw [List.pairwise_append]
    refine ⟨h.2.sublist (List.take_sublist _ _), List.pairwise_cons.2 ⟨fun x hx => ?_, h.2.sublist (List.drop_sublist _ _)⟩, fun a ha b hb => ?_⟩
    · obtain ⟨i, hi⟩ := List.mem_iff_getElem?.1 hx
      rw [List.getElem?_drop] at hi
      exact hafter _ x (by omega) hi
    · obtain ⟨i, hi⟩ := List.mem_iff_getElem?.1 ha
      rw [List.getElem?_take] at hi
      split at hi
      · rcases List.mem_cons.1 hb with hb | hb
        · rw [hb]; exact hlo i a (by assumption) hi
        · obtain ⟨j, hj⟩ := List.mem_iff_getElem?.1 hb
          rw [List.getElem?_drop] at hj
          exact List.lt_trans (hlo i a (by assumption) hi) (hafter _ b (by omega) hj)
      · cases hi
end
theorem Keys.step {S S' : DS} (h : Keys S) {p : List UInt8} {k : Nat} (hs : stepD S p k = some S') : Keys S' := by
  unfold stepD at hs
  split at hs
  · cases hs; exact h.put _ _
  · cases hs
theorem Keys.play : ∀ {l : List (List UInt8 × Nat)} {i : Nat} {S S' : DS}, Keys S → playS l i S = .inr S' → Keys S'
  | [], i, S, S', h, hp => by cases hp; exact h
  | x :: r, i, S, S', h, hp => by
    unfold playS at hp
    cases hs : stepD S x.1 x.2 with
    | none => rw [hs] at hp; cases hp
    | some S1 => rw [hs] at hp; exact Keys.play (h.step hs) hp
/-- A device alone. -/
def single (p : List UInt8) : Option Dv → DS
  | none => []
  | some d => [(p, d)]
theorem look_single (p : List UInt8) (o : Option Dv) : look (single p o) p = o := by
  cases o <;> simp [single, look]
theorem put_single (p : List UInt8) (o : Option Dv) (d : Dv) : putD (single p o) p d = single p (some d) := by
  unfold putD
  rw [look_single]
  cases o <;> simp [single]
theorem step_look {S S' : DS} {p q : List UInt8} {k : Nat} (hs : stepD S p k = some S') : look S' q = if q = p then some (doM ((look S p).getD dv0) k) else look S q := by
  unfold stepD at hs
  split at hs
  · cases hs; exact look_put _ _ _
  · cases hs
theorem step_single {S S' : DS} {p : List UInt8} {k : Nat} (hs : stepD S p k = some S') : stepD (single p (look S p)) p k = some (single p (look S' p)) := by
  have h2 := step_look (q := p) hs
  rw [if_pos rfl] at h2
  unfold stepD at hs ⊢
  rw [look_single]
  split at hs
  · rename_i hc; rw [if_pos hc, h2, put_single]
  · cases hs
/-- Each device is what its own events make of it. -/
theorem play_own (p : List UInt8) : ∀ {l : List (List UInt8 × Nat)} {i j : Nat} {S S' : DS}, playS l i S = .inr S' → playS (l.filter fun x => decide (x.1 = p)) j (single p (look S p)) = .inr (single p (look S' p))
  | [], i, j, S, S', hp => by cases hp; rfl
  | x :: r, i, j, S, S', hp => by
    unfold playS at hp
    cases hs : stepD S x.1 x.2 with
    | none => rw [hs] at hp; cases hp
    | some S1 =>
      rw [hs] at hp
      rw [List.filter_cons]
      by_cases hx : x.1 = p
      · rw [if_pos (by simpa using hx)]
        unfold playS
        rw [hx] at hs ⊢
        rw [step_single hs]
        exact play_own p hp
      · rw [if_neg (by simpa using hx)]
        have := step_look (q := p) hs
        rw [if_neg (fun e => hx e.symm)] at this
        rw [← this]
        exact play_own p hp
/-- Where it stops, and just there. -/
theorem play_stop : ∀ {l : List (List UInt8 × Nat)} {i n : Nat} {S : DS}, playS l i S = .inl n → i ≤ n ∧ n < i + l.length ∧ (∃ S', playS (l.take (n - i)) i S = .inr S') ∧ playS (l.take (n - i + 1)) i S = .inl n
  | [], i, n, S, hp => by cases hp
  | x :: r, i, n, S, hp => by
    have hp0 := hp
    unfold playS at hp
    cases hs : stepD S x.1 x.2 with
    | none =>
      rw [hs] at hp
      cases hp
      refine ⟨Nat.le_refl _, by simp, ⟨S, by rw [Nat.sub_self]; rfl⟩, ?_⟩
      rw [Nat.sub_self, Nat.zero_add, List.take_succ_cons, List.take_zero]
      unfold playS; rw [hs]
    | some S1 =>
      rw [hs] at hp
      obtain ⟨h1, h2, ⟨S', h3⟩, h4⟩ := play_stop hp
      refine ⟨by omega, by simp only [List.length_cons]; omega, ⟨S', ?_⟩, ?_⟩
      · rw [show n - i = (n - (i + 1)) + 1 by omega, List.take_succ_cons]
        unfold playS; rw [hs]; exact h3
      · rw [show n - i + 1 = (n - (i + 1) + 1) + 1 by omega, List.take_succ_cons]
        unfold playS; rw [hs]; exact h4
/-- One event more. -/
theorem play_snoc : ∀ {l : List (List UInt8 × Nat)} {i : Nat} {S S1 : DS} {x : List UInt8 × Nat}, playS l i S = .inr S1 → playS (l ++ [x]) i S = match stepD S1 x.1 x.2 with | none => .inl (i + l.length) | some S' => .inr S'
  | [], i, S, S1, x, hp => by
    cases hp
    show playS [x] i S = _
    unfold playS
    cases stepD S x.1 x.2 <;> rfl
  | y :: r, i, S, S1, x, hp => by
    unfold playS at hp
    cases hs : stepD S y.1 y.2 with
    | none => rw [hs] at hp; cases hp
    | some S2 =>
      rw [hs] at hp
      have := play_snoc (x := x) hp
      rw [List.cons_append]
      conv => lhs; unfold playS
      rw [hs]
      dsimp only
      rw [this, List.length_cons, show i + 1 + r.length = i + (r.length + 1) by omega]
/-- A stop stays where it is, whatever comes behind. -/
theorem play_more : ∀ {l r : List (List UInt8 × Nat)} {i n : Nat} {S : DS}, playS l i S = .inl n → playS (l ++ r) i S = .inl n
  | [], r, i, n, S, hp => by cases hp
  | y :: l, r, i, n, S, hp => by
    unfold playS at hp
    rw [List.cons_append]
    unfold playS
    cases hs : stepD S y.1 y.2 with
    | none => rw [hs] at hp; exact hp
    | some S2 => rw [hs] at hp; exact play_more hp
end Go.Proofs.YtjaendlcijmifaaGreatDoor

namespace Go.Proofs.YtjaendlcijmifaaGreatDoor.Wk
open Go Go.RowKit

/-- What a lookup may tell. -/
def Tells (l : List (Value × Value)) (key z r : Value) : Prop := (key, r) ∈ l ∨ r = z ∧ ∀ p ∈ l, p.1 ≠ key
/-- A map with the stamps of its entries. -/
def MapK (P : Program) (k : TypeId) (w : World) (b : Nat) (l : List (Value × Value)) : Prop :=
  ∃ es clock, w.heap[b]? = some (.map es clock) ∧ es.toList.map (fun e => (e.key, e.val)) = l ∧ (∀ e ∈ es.toList, ∃ q, keyOf P k e.key = some q) ∧ (∀ e ∈ es.toList, e.born < clock) ∧ (es.toList.map (·.born)).Nodup
theorem MapK.toL {P : Program} {k : TypeId} {w : World} {b : Nat} {l : List (Value × Value)} (h : MapK P k w b l) : MapL P k w b l := by
  obtain ⟨es, clock, h1, h2, h3, _⟩ := h
  exact ⟨es, clock, h1, h2, h3⟩
theorem MapK.chg {P : Program} {k : TypeId} {w w' : World} {M : Nat → Prop} {b : Nat} {l : List (Value × Value)} (h : MapK P k w b l) (hc : Chg M w w') (hb : ¬ M b) : MapK P k w' b l := by
  have hl := h.toL.lt
  obtain ⟨es, clock, h, r⟩ := h
  exact ⟨es, clock, (hc.block b hl hb).trans h, r⟩
/-- An entry has been found or laid; it waits for its value. -/
def MapP (P : Program) (k : TypeId) (w : World) (b : Nat) (l : List (Value × Value)) (stamp j : Nat) : Prop :=
  ∃ es clock, w.heap[b]? = some (.map es clock) ∧ es.toList.map (fun e => (e.key, e.val)) = l ∧ (∀ e ∈ es.toList, ∃ q, keyOf P k e.key = some q) ∧ (∀ e ∈ es.toList, e.born < clock) ∧ (es.toList.map (·.born)).Nodup ∧ ∃ e, es.toList[j]? = some e ∧ e.born = stamp
theorem MapP.toL {P : Program} {k : TypeId} {w : World} {b : Nat} {l : List (Value × Value)} {stamp j : Nat} (h : MapP P k w b l stamp j) : MapL P k w b l := by
  obtain ⟨es, clock, h1, h2, h3, _⟩ := h
  exact ⟨es, clock, h1, h2, h3⟩
theorem pair_set {l : List (Value × Value)} {key v u : Value} {j : Nat} (hj : l[j]? = some (key, v)) (hnd : (l.map (·.1)).Nodup) : (key, u) ∈ l.set j (key, u) ∧ ∀ r, (key, r) ∈ l.set j (key, u) → r = u := by
  have hjl := (List.getElem?_eq_some_iff.1 hj).1
  refine ⟨List.mem_iff_getElem?.2 ⟨j, by rw [List.getElem?_set, if_pos rfl, if_pos hjl]⟩, fun r hr => ?_⟩
  obtain ⟨i, hi⟩ := List.mem_iff_getElem?.1 hr
  rw [List.getElem?_set] at hi
  split at hi
  · simp only [Option.some.injEq, Prod.mk.injEq] at hi
    exact hi.2.symm
  · rename_i hne
    exfalso
    have h1 : (l.map (·.1))[i]? = some key := by rw [List.getElem?_map, hi]; rfl
    have h2 : (l.map (·.1))[j]? = some key := by rw [List.getElem?_map, hj]; rfl
    have hil := (List.getElem?_eq_some_iff.1 h1).1
    exact hne ((List.getElem?_inj hil hnd).1 (h1.trans h2.symm)).symm
section
variable {P : Program} {n : Nat} {ds : List Deferred} {Q : Po} {F : Fr} {w w' : World} {ops rest : List Oper} {d : Nat} {ty : TypeId} {pos : String} {aft : Array Edge}
theorem run_lookupOk {t k e : TypeId} {sz bytes : Nat} {agg : Bool} {z : Value} {b : Nat} {l : List (Value × Value)} {key : Value} {q : Lit} (ht : P.underlying t = some (.map k e)) (he : ElT P e sz bytes agg z) (Kd : Maps.Keyed P k) (h : MapL P k w b l) (hq : keyOf P k key = some q) :
    ∃ r f, (Instr.lookup t (.map (some b)) key true).run P w = .ok (.tuple #[r, .bool f]) w ∧ (f = true ∧ (key, r) ∈ l ∨ f = false ∧ r = z ∧ ∀ p ∈ l, p.1 ≠ key) := by
  obtain ⟨es, clock, hh, rfl, hk⟩ := h
  have hg := run_getObj_map (P := P) w b es clock hh
  rcases Kd.find w hq es.toList hk with ⟨hf, hn⟩ | ⟨j, e0, hf, hj, rfl⟩
  · refine ⟨z, false, ?_, .inr ⟨rfl, rfl, fun p hp => ?_⟩⟩
    · simp [Instr.lookup, run_underlying ht, hg, Kd.check w _ hq, hf, he.zeroValue]
    · obtain ⟨e1, he1, rfl⟩ := List.mem_map.1 hp; exact hn e1 he1
  · refine ⟨e0.val, true, ?_, .inl ⟨rfl, List.mem_map.2 ⟨e0, List.mem_of_getElem? hj, rfl⟩⟩⟩
    simp [Instr.lookup, run_underlying ht, hg, Kd.check w _ hq, hf]
/-- v, ok := m[k]. -/
theorem Wl.lookupOk {x i : Operand} {t k e : TypeId} {sz bytes : Nat} {agg : Bool} {z : Value} {b : Nat} {l : List (Value × Value)} {key : Value} {q : Lit} [ht : Und P t (.map k e)] [he : ElT P e sz bytes agg z] (Kd : Maps.Keyed P k) (h : MapL P k w b l) (hq : keyOf P k key = some q)
    (hx : ev n F x = .map (some b)) (hi : ev n F i = key) (c1 : ∀ r, (key, r) ∈ l → Wl P n ds Q ops rest (upd F d (.tuple #[r, .bool true])) w) (c2 : (∀ p ∈ l, p.1 ≠ key) → Wl P n ds Q ops rest (upd F d (.tuple #[z, .bool false])) w) :
    Wl P n ds Q ops (⟨some d, .lookup t x i true, ty, pos, aft, none⟩ :: rest) F w := by
  obtain ⟨r, f, hr, ⟨rfl, hp⟩ | ⟨rfl, rfl, hp⟩⟩ := run_lookupOk ht.h he Kd h hq
  · exact Wl.val (by simp only [execOp, hx, hi, Sem.run_bind, hr, Result.andThen_ok, Sem.run_pure]) (c1 r hp)
  · exact Wl.val (by simp only [execOp, hx, hi, Sem.run_bind, hr, Result.andThen_ok, Sem.run_pure]) (c2 hp)
/-- m[k] = u where k was there. -/
theorem Wl.mapSet {x i y : Operand} {t k e : TypeId} {b : Nat} {l : List (Value × Value)} {key v0 u : Value} {q : Lit} [ht : Und P t (.map k e)] (Kd : Maps.Keyed P k) (h : MapL P k w b l) (hq : keyOf P k key = some q) (hin : (key, v0) ∈ l) (hnd : (l.map (·.1)).Nodup)
    (hx : ev n F x = .map (some b)) (hi : ev n F i = key) (hy : ev n F y = u) (c : ∀ w' l', MapL P k w' b l' → (key, u) ∈ l' → (∀ r, (key, r) ∈ l' → r = u) → Chg (fun j => j = b) w w' → Wl P n ds Q ops rest F w') :
    Wl P n ds Q ops (⟨none, .mapUpdate t x i y, ty, pos, aft, none⟩ :: rest) F w := by
  have hlt := h.lt
  obtain ⟨es, clock, hh, rfl, hk⟩ := h
  have hg := run_getObj_map (P := P) w b es clock hh
  rcases Kd.find w hq es.toList hk with ⟨hf, hn⟩ | ⟨j, e0, hf, hj, rfl⟩
  · obtain ⟨e1, he1, e2⟩ := List.mem_map.1 hin
    simp only [Prod.mk.injEq] at e2
    exact absurd e2.1 (hn e1 he1)
  · let es' := es.modify j fun e => { e with key := e0.key, val := u }
    have hl' : es'.toList = es.toList.set j { e0 with val := u } := by
      have hjs := (List.getElem?_eq_some_iff.1 hj)
      apply List.ext_getElem?
      intro m
      simp only [es', Array.getElem?_toList, Array.getElem?_modify, List.getElem?_set]
      by_cases hm : j = m
      · subst hm
        simp only [if_true]
        rw [if_pos hjs.1]
        rw [Array.getElem?_toList] at hj
        rw [hj]; rfl
      · rw [if_neg hm, if_neg hm]
    have h1 : (w.heap.setIfInBounds b (.map es' clock))[b]? = some (.map es' clock) := by simp [Array.getElem?_setIfInBounds, hlt]
    have hset : (setObj b (.map es' clock)).run P w = .ok () { w with heap := w.heap.setIfInBounds b (.map es' clock) } := by simp [setObj, Sem.run, hh]
    have hpj : (es.toList.map (fun e => (e.key, e.val)))[j]? = some (e0.key, e0.val) := by rw [List.getElem?_map, hj]; rfl
    have hmap : es'.toList.map (fun e => (e.key, e.val)) = (es.toList.map (fun e => (e.key, e.val))).set j (e0.key, u) := by rw [hl', List.map_set]
    obtain ⟨p1, p2⟩ := pair_set (u := u) hpj hnd
    refine Wl.unit (w' := { w with heap := w.heap.setIfInBounds b (.map es' clock) }) ?_ (c _ _ ⟨_, _, h1, hmap, fun e he => ?_⟩ p1 p2 ⟨rfl, rfl, rfl, by simp, fun j _ hj => Array.getElem?_setIfInBounds_ne (Ne.symm hj)⟩)
    · have hst := Kd.stays w hq
      have hj' : es[j]? = some e0 := by rw [Array.getElem?_toList] at hj; exact hj
      simp [execOp, hx, hi, hy, Instr.mapUpdate, run_underlying ht.h, hg, Kd.check w _ hq, hf, hj', hst, hset, es']
    · rw [hl'] at he
      rcases List.mem_or_eq_of_mem_set he with he | rfl
      · exact hk e he
      · exact hk e0 (List.mem_of_getElem? hj)
theorem Wl.mapEntry {x i : Operand} {t k e sz bytes : Nat} {agg : Bool} {z : Value} {b : Nat} {l : List (Value × Value)} {key : Value} {q : Lit} [ht : Und P t (.map k e)] [he : ElT P e sz bytes agg z] (Kd : Maps.Keyed P k) (h : MapK P k w b l) (hq : keyOf P k key = some q)
    (hx : ev n F x = .map (some b)) (hi : ev n F i = key)
    (c : ∀ w' l' j v stamp, MapP P k w' b l' stamp j → (l' = l ++ [(key, z)] ∧ j = l.length ∧ v = z ∧ (∀ p ∈ l, p.1 ≠ key) ∨ l' = l ∧ l[j]? = some (key, v)) → Chg (fun j => j = b) w w' → Wl P n ds Q ops rest (upd F d (.tuple #[v, vi (stamp : Nat)])) w') :
    Wl P n ds Q ops (⟨some d, .mapEntry t x i, ty, pos, aft, none⟩ :: rest) F w := by
  have hlt := h.toL.lt
  obtain ⟨es, clock, hh, rfl, hk, hb, hnb⟩ := h
  have hg := run_getObj_map (P := P) w b es clock hh
  have hrun : ∀ o, (setObj b o).run P w = .ok () { w with heap := w.heap.setIfInBounds b o } ∨ True := fun _ => .inr trivial
  rcases Kd.find w hq es.toList hk with ⟨hf, hn⟩ | ⟨j, e0, hf, hj, rfl⟩
  · let es' := es.push { key, val := z, born := clock }
    have h1 : (w.heap.setIfInBounds b (.map es' (clock + 1)))[b]? = some (.map es' (clock + 1)) := by simp [Array.getElem?_setIfInBounds, hlt]
    have hset : (setObj b (.map es' (clock + 1))).run P w = .ok () { w with heap := w.heap.setIfInBounds b (.map es' (clock + 1)) } := by simp [setObj, Sem.run, hh]
    refine Wl.val (w' := { w with heap := w.heap.setIfInBounds b (.map es' (clock + 1)) }) (v := .tuple #[z, vi (clock : Nat)]) ?_ (c _ _ es.toList.length z clock ⟨es', clock + 1, h1, rfl, fun e he => ?_, fun e he => ?_, ?_, ⟨{ key, val := z, born := clock }, ?_, rfl⟩⟩ (.inl ⟨by simp [es'], by simp, rfl, fun p hp => ?_⟩) ⟨rfl, rfl, rfl, by simp, fun j _ hj => Array.getElem?_setIfInBounds_ne (Ne.symm hj)⟩)
    · simp [execOp, hx, hi, Instr.mapEntry, run_underlying ht.h, hg, Kd.check w _ hq, hf, he.zeroValue, hset, es', goInt]
    · simp only [es', Array.toList_push, List.mem_append, List.mem_singleton] at he
      rcases he with he | rfl
      · exact hk e he
      · exact ⟨q, hq⟩
    · simp only [es', Array.toList_push, List.mem_append, List.mem_singleton] at he
      rcases he with he | rfl
      · have := hb e he; omega
      · exact Nat.lt_succ_self _
    · simp only [es', Array.toList_push, List.map_append, List.map_cons, List.map_nil]
      rw [List.nodup_append]
      refine ⟨hnb, by simp, fun a ha c hc => ?_⟩
      obtain ⟨e1, he1, rfl⟩ := List.mem_map.1 ha
      simp only [List.mem_singleton] at hc
      have := hb e1 he1
      omega
    · simp [es']
    · obtain ⟨e1, he1, rfl⟩ := List.mem_map.1 hp
      exact hn e1 he1
  · let es' := es.modify j fun e => { e with key := e0.key }
    have hl' : es'.toList = es.toList := by
      apply List.ext_getElem?
      intro m
      simp only [es', Array.getElem?_toList, Array.getElem?_modify]
      by_cases hm : j = m
      · subst hm
        simp only [if_true]
        rw [Array.getElem?_toList] at hj
        rw [hj]; rfl
      · rw [if_neg hm]
    have h1 : (w.heap.setIfInBounds b (.map es' clock))[b]? = some (.map es' clock) := by simp [Array.getElem?_setIfInBounds, hlt]
    have hset : (setObj b (.map es' clock)).run P w = .ok () { w with heap := w.heap.setIfInBounds b (.map es' clock) } := by simp [setObj, Sem.run, hh]
    refine Wl.val (w' := { w with heap := w.heap.setIfInBounds b (.map es' clock) }) (v := .tuple #[e0.val, vi (e0.born : Nat)]) ?_ (c _ _ j e0.val e0.born ⟨es', clock, h1, by rw [hl'], by rw [hl']; exact hk, by rw [hl']; exact hb, by rw [hl']; exact hnb, ⟨e0, by rw [hl']; exact hj, rfl⟩⟩ (.inr ⟨rfl, by rw [List.getElem?_map, hj]; rfl⟩) ⟨rfl, rfl, rfl, by simp, fun j _ hj => Array.getElem?_setIfInBounds_ne (Ne.symm hj)⟩)
    have hst := Kd.stays w hq
    have hj' : es[j]? = some e0 := by rw [Array.getElem?_toList] at hj; exact hj
    simp [execOp, hx, hi, Instr.mapEntry, run_underlying ht.h, hg, Kd.check w _ hq, hf, hj', hst, hset, es', goInt]
theorem Wl.entryStore {x s y : Operand} {t k : TypeId} {b : Nat} {l : List (Value × Value)} {key v u : Value} {stamp j : Nat} (h : MapP P k w b l stamp j) (hj : l[j]? = some (key, v))
    (hx : ev n F x = .map (some b)) (hs : ev n F s = vi (stamp : Nat)) (hy : ev n F y = u) (c : ∀ w', MapK P k w' b (l.set j (key, u)) → Chg (fun j => j = b) w w' → Wl P n ds Q ops rest F w') :
    Wl P n ds Q ops (⟨none, .entryStore t x s y, ty, pos, aft, none⟩ :: rest) F w := by
  have hlt := h.toL.lt
  obtain ⟨es, clock, hh, rfl, hk, hb, hnb, e0, hj0, rfl⟩ := h
  have hg := run_getObj_map (P := P) w b es clock hh
  rw [List.getElem?_map, hj0] at hj
  simp only [Option.map_some, Option.some.injEq, Prod.mk.injEq] at hj
  obtain ⟨rfl, rfl⟩ := hj
  let es' := es.modify j fun e => { e with val := u }
  have hj' : es[j]? = some e0 := by rw [Array.getElem?_toList] at hj0; exact hj0
  have hl' : es'.toList = es.toList.set j { e0 with val := u } := by
    have hjs := (List.getElem?_eq_some_iff.1 hj0)
    apply List.ext_getElem?
    intro m
    simp only [es', Array.getElem?_toList, Array.getElem?_modify, List.getElem?_set]
    by_cases hm : j = m
    · subst hm
      simp only [if_true]
      rw [if_pos hjs.1, hj']; rfl
    · rw [if_neg hm, if_neg hm]
  have hfind : es.findIdx? (fun e => (e.born : Int) == (e0.born : Int)) = some j := by
    have : es.toList.findIdx? (fun e => (e.born : Int) == (e0.born : Int)) = some j := by
      rw [List.findIdx?_eq_some_iff_getElem]
      have hjs := List.getElem?_eq_some_iff.1 hj0
      refine ⟨hjs.1, by rw [hjs.2]; simp, fun i hi hc => ?_⟩
      have hlt2 : i < es.toList.length := Nat.lt_trans hi hjs.1
      have e1 : (es.toList.map (·.born))[i]? = some e0.born := by
        rw [List.getElem?_map, List.getElem?_eq_getElem hlt2]
        have : (es.toList[i]).born = e0.born := by simp only [beq_iff_eq] at hc; omega
        rw [Option.map_some, this]
      have e2 : (es.toList.map (·.born))[j]? = some e0.born := by rw [List.getElem?_map, hj0]; rfl
      have := (List.getElem?_inj (List.getElem?_eq_some_iff.1 e1).1 hnb).1 (e1.trans e2.symm)
      omega
    rwa [← List.findIdx?_toArray, Array.toArray_toList] at this
  have h1 : (w.heap.setIfInBounds b (.map es' clock))[b]? = some (.map es' clock) := by simp [Array.getElem?_setIfInBounds, hlt]
  have hset : (setObj b (.map es' clock)).run P w = .ok () { w with heap := w.heap.setIfInBounds b (.map es' clock) } := by simp [setObj, Sem.run, hh]
  refine Wl.unit (w' := { w with heap := w.heap.setIfInBounds b (.map es' clock) }) ?_ (c _ ⟨es', clock, h1, by rw [hl', List.map_set], fun e he => ?_, fun e he => ?_, ?_⟩ ⟨rfl, rfl, rfl, by simp, fun j _ hj => Array.getElem?_setIfInBounds_ne (Ne.symm hj)⟩)
  · simp [execOp, hx, hs, hy, Instr.entryStore, hg, asInt, asIntOf, hfind, hset, es']
  · rw [hl'] at he
    rcases List.mem_or_eq_of_mem_set he with he | rfl
    · exact hk e he
    · exact hk e0 (List.mem_of_getElem? hj0)
  · rw [hl'] at he
    rcases List.mem_or_eq_of_mem_set he with he | rfl
    · exact hb e he
    · exact hb e0 (List.mem_of_getElem? hj0)
  · rw [hl', List.map_set]
    have e2 : (es.toList.map (·.born))[j]? = some e0.born := by rw [List.getElem?_map, hj0]; rfl
    have : (es.toList.map (·.born)).set j e0.born = es.toList.map (·.born) := by
      apply List.ext_getElem?
      intro m
      rw [List.getElem?_set]
      split
      · rename_i hm
        subst hm
        rw [if_pos (List.getElem?_eq_some_iff.1 e2).1, e2]
      · rfl
    show ((es.toList.map (·.born)).set j e0.born).Nodup
    rw [this]; exact hnb
theorem Wl.makeMapK {t : TypeId} {k : TypeId} (c : ∀ w', MapK P k w' w.heap.size [] → New w w' → w'.heap.size = w.heap.size + 1 → Wl P n ds Q ops rest (upd F d (.map (some w.heap.size))) w') :
    Wl P n ds Q ops (⟨some d, .makeMap t none, ty, pos, aft, none⟩ :: rest) F w := by
  refine Wl.val (w' := w.alloc (.map #[] 0)) (v := .map (some w.heap.size)) ?_ (c _ ⟨#[], 0, heap_alloc_new w _, by simp, by simp, by simp, by simp⟩ (Chg.alloc _ _ _) (by simp))
  simp [execOp, Instr.makeMap]
theorem Wq.lookupT {C : World → Prop} {K : Fr → Prop} {x i : Operand} {t k e sz bytes : Nat} {agg : Bool} {z r0 : Value} {b : Nat} {key : Value} {q : Lit} [ht : Und P t (.map k e)] [he : ElT P e sz bytes agg z] (Kd : Maps.Keyed P k) (hC : ∀ w, C w → ∃ l, MapL P k w b l ∧ ∀ r, Tells l key z r → r = r0) (hq : keyOf P k key = some q)
    (hx : ev n F x = .map (some b)) (hi : ev n F i = key) (c : Wq P n ds C K ops rest (upd F d r0)) : Wq P n ds C K ops (⟨some d, .lookup t x i false, ty, pos, aft, none⟩ :: rest) F := by
  refine Wq.val (fun w hw => ?_) c
  obtain ⟨l, h, hr⟩ := hC w hw
  obtain ⟨r, h1, h2⟩ := run_lookup ht.h he Kd h hq
  rw [← hr r h2]
  simp only [execOp, hx, hi, Sem.run_bind, h1, Result.andThen_ok, Sem.run_pure]
theorem Wq.buildF {C : World → Prop} {K : Fr → Prop} {t : TypeId} {m sz bytes : Nat} {agg : Bool} {z : Value} {ps : List (Nat × Operand)} {parts : List (Nat × Value)} [hf : Flat P t m] [he : ElT P t sz bytes agg z] (hz : z.cells.size = m) (hps : ps.map (fun p => (p.1, ev n F p.2)) = parts) (hp : ∀ p ∈ parts, p.1 < m ∧ p.2.cells = #[p.2])
    (c : Wq P n ds C K ops rest (upd F d (.agg (setAll z.cells parts)))) : Wq P n ds C K ops (⟨some d, .build t ps.toArray, ty, pos, aft, none⟩ :: rest) F := by
  refine Wq.val (fun w _ => ?_) c
  subst hps
  have := run_buildF (P := P) (w := w) hf he hz hp
  simp only [execOp, List.map_toArray, Sem.run_bind]
  rw [this]; rfl
/-- An array of elements of one cell by its parts. -/
theorem Wl.buildA {t e m sz bytes ebytes : Nat} {agg eagg : Bool} {z ez : Value} {ps : List (Nat × Operand)} {parts : List (Nat × Value)} {cs : List Value} [ht : Und P t (.array m e)] [hee : ElT P e 1 ebytes eagg ez] [he : ElT P t sz bytes agg z] (hz : z.cells.size = m) (hps : ps.map (fun p => (p.1, ev n F p.2)) = parts) (hp : ∀ p ∈ parts, p.1 < m ∧ p.2.cells = #[p.2])
    (hcs : setAll z.cells parts = cs.toArray) (c : Wl P n ds Q ops rest (upd F d (.agg cs.toArray)) w) : Wl P n ds Q ops (⟨some d, .build t ps.toArray, ty, pos, aft, none⟩ :: rest) F w := by
  refine Wl.val ?_ c
  subst hps
  have hfill := fill_flat (m := m) (places := fun i => some (i * 1, 1)) _ z.cells hz (fun i _ => by rw [Nat.mul_one]) hp
  have : (Instr.build t (ps.map (fun p => (p.1, ev n F p.2))).toArray).run P w = .ok (.agg cs.toArray) w := by
    simp only [Instr.build, Sem.run_bind, he.zeroValue, Result.andThen_ok, run_underlying ht.h, hee.sizeOf, hfill, hcs, Sem.run_pure]
  simp only [execOp, List.map_toArray, Sem.run_bind]
  rw [this]; rfl
end
end Go.Proofs.YtjaendlcijmifaaGreatDoor.Wk

namespace Go.Proofs.YtjaendlcijmifaaGreatDoor
open Go Wk
open Go.RowKit (Below)
attribute [local irreducible] Go.Calls

section
variable {P : Program} {n : Nat} {ds : List Deferred} {Q : Po} {F : Fr} {w : World} {ops rest : List Oper} {d : Nat} {ty : TypeId} {pos : String} {aft : Array Edge}
theorem Wk.Wl.mapInsP {x i y : Operand} {t k e : TypeId} {b : Nat} {l : List (Value × Value)} {key u : Value} {q : Lit} [ht : Und P t (.map k e)] (Kd : Maps.Keyed P k) (h : MapL P k w b l) (hq : keyOf P k key = some q) (hn : ∀ p ∈ l, p.1 ≠ key)
    (hx : ev n F x = .map (some b)) (hi : ev n F i = key) (hy : ev n F y = u) (c : ∀ w', MapL P k w' b (l ++ [(key, u)]) → Chg (fun j => j = b) w w' → w'.heap.size = w.heap.size → Wl P n ds Q ops rest F w') :
    Wl P n ds Q ops (⟨none, .insert t x i y, ty, pos, aft, none⟩ :: rest) F w := by
  have hlt := h.lt
  obtain ⟨es, clock, hh, rfl, hk⟩ := h
  have hg := run_getObj_map (P := P) w b es clock hh
  rcases Kd.find w hq es.toList hk with ⟨hf, _⟩ | ⟨j, e0, hf, hj, rfl⟩
  · have h1 : (w.heap.setIfInBounds b (.map (es.push { key, val := u, born := clock }) (clock + 1)))[b]? = some (.map (es.push { key, val := u, born := clock }) (clock + 1)) := by simp [Array.getElem?_setIfInBounds, hlt]
    have hset : (setObj b (.map (es.push { key, val := u, born := clock }) (clock + 1))).run P w = .ok () { w with heap := w.heap.setIfInBounds b (.map (es.push { key, val := u, born := clock }) (clock + 1)) } := by simp [setObj, Sem.run, hh]
    refine Wl.unit (w' := { w with heap := w.heap.setIfInBounds b (.map (es.push { key, val := u, born := clock }) (clock + 1)) }) ?_ (c _ ⟨_, _, h1, by simp, fun e he => ?_⟩ ⟨rfl, rfl, rfl, by simp, fun j _ hj => Array.getElem?_setIfInBounds_ne (Ne.symm hj)⟩ (by simp))
    · simp [execOp, hx, hi, hy, Instr.mapUpdate, run_underlying ht.h, hg, Kd.check w _ hq, hf, hset]
    · simp only [Array.toList_push, List.mem_append, List.mem_singleton] at he
      rcases he with he | rfl
      · exact hk e he
      · exact ⟨q, hq⟩
  · exfalso
    have hm := List.mem_of_getElem? hj
    exact hn (e0.key, e0.val) (List.mem_map.2 ⟨e0, hm, rfl⟩) rfl
end
abbrev tDev : TypeId := 59
def dvC (p : List UInt8) (d : Dv) : List Value := [vs p, .bool d.bo, .bool d.on, .bool d.sl, .bool d.go]
abbrev dvV (p : List UInt8) (d : Dv) : Value := .agg (dvC p d).toArray
theorem dvC_one (p : List UInt8) (d : Dv) : ∀ c ∈ dvC p d, c.oneCell' = true := by
  intro c hc
  simp only [dvC, List.mem_cons, List.not_mem_nil, or_false] at hc
  rcases hc with rfl | rfl | rfl | rfl | rfl <;> rfl
def mayF (k : Nat) : Nat := [0, 46, 48, 50, 52, 54, 56, 58, 60, 62].getD k 0
def doF (k : Nat) : Nat := [0, 47, 49, 51, 53, 55, 57, 59, 61, 63].getD k 0
def ruleV (k : Nat) : Value := .agg #[.func (.func (mayF k)) #[] #[], .func (.func (doF k)) #[] #[]]
def ruleL : List (Value × Value) := [1, 2, 3, 4, 5, 6, 7, 8, 9].map fun k : Nat => (.int .u8 k, ruleV k)
theorem kinds9 {k : Nat} (h0 : 1 ≤ k) (h9 : k ≤ 9) : k = 1 ∨ k = 2 ∨ k = 3 ∨ k = 4 ∨ k = 5 ∨ k = 6 ∨ k = 7 ∨ k = 8 ∨ k = 9 := by omega
theorem may1 {w : World} {p : List UInt8} {d : Dv} : Calls Tryz.prog 46 #[dvV p d] w (Ret fun r w' => r = .bool (mayM d 1) ∧ New w w') := by
  rcases d with ⟨bo, on, sl, go⟩
  cases go <;> cases bo <;> (
    refine calls_of_Wc Tryz.func46 rfl Tryz.ntmps46 rfl ?_
    (repeat' (first | refine Wc.seq ?_ | refine Wc.region ?_))
    refine Wl.box rfl fun w1 b1 n1 s1 => ?_
    replace b1 : Bk w1 w.heap.size tDev (dvC p _) := b1
    (repeat' (first | refine Wl.assignE (by conv => { lhs; whnf }) ?_ | refine Wl.nil ?_ | refine Qseq.normal ?_ | refine Wc.seq ?_ | refine Wc.region ?_ | refine Wl.fieldAddr rfl rfl ?_))
    (repeat' (refine Wl.load1 rfl (b1.cell rfl) ?_; (repeat' (first | refine Wl.moveE (by conv => { lhs; whnf }) ?_ | refine Wl.assignE (by conv => { lhs; whnf }) ?_ | refine Wl.nil ?_ | refine Wl.guardY rfl rfl ?_ | refine Wl.guardN rfl rfl ?_ | refine Wl.pickTE rfl (by conv => { lhs; whnf }) ?_ | refine Wl.pickFE rfl (by conv => { lhs; whnf }) ?_ | refine Wl.notB rfl ?_ | refine Qseq.normal ?_ | refine Wc.ret ?_ | refine Wl.fieldAddr rfl rfl ?_))))
    exact Qfn.ret1 rfl rfl ⟨_, rfl, rfl, n1⟩)
theorem may2 {w : World} {p : List UInt8} {d : Dv} : Calls Tryz.prog 48 #[dvV p d] w (Ret fun r w' => r = .bool (mayM d 2) ∧ New w w') := by
  rcases d with ⟨bo, on, sl, go⟩
  cases bo <;> cases on <;> cases sl <;> (
    refine calls_of_Wc Tryz.func48 rfl Tryz.ntmps48 rfl ?_
    (repeat' (first | refine Wc.seq ?_ | refine Wc.region ?_))
    refine Wl.box rfl fun w1 b1 n1 s1 => ?_
    replace b1 : Bk w1 w.heap.size tDev (dvC p _) := b1
    (repeat' (first | refine Wl.assignE (by conv => { lhs; whnf }) ?_ | refine Wl.nil ?_ | refine Qseq.normal ?_ | refine Wc.seq ?_ | refine Wc.region ?_ | refine Wl.fieldAddr rfl rfl ?_))
    (repeat' (refine Wl.load1 rfl (b1.cell rfl) ?_; (repeat' (first | refine Wl.moveE (by conv => { lhs; whnf }) ?_ | refine Wl.assignE (by conv => { lhs; whnf }) ?_ | refine Wl.nil ?_ | refine Wl.guardY rfl rfl ?_ | refine Wl.guardN rfl rfl ?_ | refine Wl.pickTE rfl (by conv => { lhs; whnf }) ?_ | refine Wl.pickFE rfl (by conv => { lhs; whnf }) ?_ | refine Wl.notB rfl ?_ | refine Qseq.normal ?_ | refine Wc.ret ?_ | refine Wl.fieldAddr rfl rfl ?_))))
    exact Qfn.ret1 rfl rfl ⟨_, rfl, rfl, n1⟩)
theorem may3 {w : World} {p : List UInt8} {d : Dv} : Calls Tryz.prog 50 #[dvV p d] w (Ret fun r w' => r = .bool (mayM d 3) ∧ New w w') := by
  rcases d with ⟨bo, on, sl, go⟩
  cases on <;> cases go <;> (
    refine calls_of_Wc Tryz.func50 rfl Tryz.ntmps50 rfl ?_
    (repeat' (first | refine Wc.seq ?_ | refine Wc.region ?_))
    refine Wl.box rfl fun w1 b1 n1 s1 => ?_
    replace b1 : Bk w1 w.heap.size tDev (dvC p _) := b1
    (repeat' (first | refine Wl.assignE (by conv => { lhs; whnf }) ?_ | refine Wl.nil ?_ | refine Qseq.normal ?_ | refine Wc.seq ?_ | refine Wc.region ?_ | refine Wl.fieldAddr rfl rfl ?_))
    (repeat' (refine Wl.load1 rfl (b1.cell rfl) ?_; (repeat' (first | refine Wl.moveE (by conv => { lhs; whnf }) ?_ | refine Wl.assignE (by conv => { lhs; whnf }) ?_ | refine Wl.nil ?_ | refine Wl.guardY rfl rfl ?_ | refine Wl.guardN rfl rfl ?_ | refine Wl.pickTE rfl (by conv => { lhs; whnf }) ?_ | refine Wl.pickFE rfl (by conv => { lhs; whnf }) ?_ | refine Wl.notB rfl ?_ | refine Qseq.normal ?_ | refine Wc.ret ?_ | refine Wl.fieldAddr rfl rfl ?_))))
    exact Qfn.ret1 rfl rfl ⟨_, rfl, rfl, n1⟩)
theorem may4 {w : World} {p : List UInt8} {d : Dv} : Calls Tryz.prog 52 #[dvV p d] w (Ret fun r w' => r = .bool (mayM d 4) ∧ New w w') := by
  rcases d with ⟨bo, on, sl, go⟩
  (
    refine calls_of_Wc Tryz.func52 rfl Tryz.ntmps52 rfl ?_
    (repeat' (first | refine Wc.seq ?_ | refine Wc.region ?_))
    refine Wl.box rfl fun w1 b1 n1 s1 => ?_
    replace b1 : Bk w1 w.heap.size tDev (dvC p _) := b1
    (repeat' (first | refine Wl.assignE (by conv => { lhs; whnf }) ?_ | refine Wl.nil ?_ | refine Qseq.normal ?_ | refine Wc.seq ?_ | refine Wc.region ?_ | refine Wl.fieldAddr rfl rfl ?_))
    (repeat' (refine Wl.load1 rfl (b1.cell rfl) ?_; (repeat' (first | refine Wl.assignE (by conv => { lhs; whnf }) ?_ | refine Wl.nil ?_ | refine Qseq.normal ?_ | refine Wc.ret ?_))))
    exact Qfn.ret1 rfl rfl ⟨_, rfl, rfl, n1⟩)
theorem may5 {w : World} {p : List UInt8} {d : Dv} : Calls Tryz.prog 54 #[dvV p d] w (Ret fun r w' => r = .bool (mayM d 5) ∧ New w w') := by
  rcases d with ⟨bo, on, sl, go⟩
  cases bo <;> cases sl <;> (
    refine calls_of_Wc Tryz.func54 rfl Tryz.ntmps54 rfl ?_
    (repeat' (first | refine Wc.seq ?_ | refine Wc.region ?_))
    refine Wl.box rfl fun w1 b1 n1 s1 => ?_
    replace b1 : Bk w1 w.heap.size tDev (dvC p _) := b1
    (repeat' (first | refine Wl.assignE (by conv => { lhs; whnf }) ?_ | refine Wl.nil ?_ | refine Qseq.normal ?_ | refine Wc.seq ?_ | refine Wc.region ?_ | refine Wl.fieldAddr rfl rfl ?_))
    (repeat' (refine Wl.load1 rfl (b1.cell rfl) ?_; (repeat' (first | refine Wl.moveE (by conv => { lhs; whnf }) ?_ | refine Wl.assignE (by conv => { lhs; whnf }) ?_ | refine Wl.nil ?_ | refine Wl.guardY rfl rfl ?_ | refine Wl.guardN rfl rfl ?_ | refine Wl.pickTE rfl (by conv => { lhs; whnf }) ?_ | refine Wl.pickFE rfl (by conv => { lhs; whnf }) ?_ | refine Wl.notB rfl ?_ | refine Qseq.normal ?_ | refine Wc.ret ?_ | refine Wl.fieldAddr rfl rfl ?_))))
    exact Qfn.ret1 rfl rfl ⟨_, rfl, rfl, n1⟩)
theorem may6 {w : World} {p : List UInt8} {d : Dv} : Calls Tryz.prog 56 #[dvV p d] w (Ret fun r w' => r = .bool (mayM d 6) ∧ New w w') := by
  rcases d with ⟨bo, on, sl, go⟩
  (
    refine calls_of_Wc Tryz.func56 rfl Tryz.ntmps56 rfl ?_
    (repeat' (first | refine Wc.seq ?_ | refine Wc.region ?_))
    refine Wl.box rfl fun w1 b1 n1 s1 => ?_
    replace b1 : Bk w1 w.heap.size tDev (dvC p _) := b1
    (repeat' (first | refine Wl.assignE (by conv => { lhs; whnf }) ?_ | refine Wl.nil ?_ | refine Qseq.normal ?_ | refine Wc.seq ?_ | refine Wc.region ?_ | refine Wl.fieldAddr rfl rfl ?_))
    (repeat' (refine Wl.load1 rfl (b1.cell rfl) ?_; (repeat' (first | refine Wl.assignE (by conv => { lhs; whnf }) ?_ | refine Wl.nil ?_ | refine Qseq.normal ?_ | refine Wc.ret ?_))))
    exact Qfn.ret1 rfl rfl ⟨_, rfl, rfl, n1⟩)
theorem may7 {w : World} {p : List UInt8} {d : Dv} : Calls Tryz.prog 58 #[dvV p d] w (Ret fun r w' => r = .bool (mayM d 7) ∧ New w w') := by
  rcases d with ⟨bo, on, sl, go⟩
  (
    refine calls_of_Wc Tryz.func58 rfl Tryz.ntmps58 rfl ?_
    (repeat' (first | refine Wc.seq ?_ | refine Wc.region ?_))
    refine Wl.box rfl fun w1 b1 n1 s1 => ?_
    replace b1 : Bk w1 w.heap.size tDev (dvC p _) := b1
    (repeat' (first | refine Wl.assignE (by conv => { lhs; whnf }) ?_ | refine Wl.nil ?_ | refine Qseq.normal ?_ | refine Wc.seq ?_ | refine Wc.region ?_ | refine Wl.fieldAddr rfl rfl ?_))
    (repeat' (refine Wl.load1 rfl (b1.cell rfl) ?_; (repeat' (first | refine Wl.assignE (by conv => { lhs; whnf }) ?_ | refine Wl.nil ?_ | refine Qseq.normal ?_ | refine Wc.ret ?_))))
    exact Qfn.ret1 rfl rfl ⟨_, rfl, rfl, n1⟩)
theorem may8 {w : World} {p : List UInt8} {d : Dv} : Calls Tryz.prog 60 #[dvV p d] w (Ret fun r w' => r = .bool (mayM d 8) ∧ New w w') := by
  rcases d with ⟨bo, on, sl, go⟩
  cases go <;> cases bo <;> cases on <;> (
    refine calls_of_Wc Tryz.func60 rfl Tryz.ntmps60 rfl ?_
    (repeat' (first | refine Wc.seq ?_ | refine Wc.region ?_))
    refine Wl.box rfl fun w1 b1 n1 s1 => ?_
    replace b1 : Bk w1 w.heap.size tDev (dvC p _) := b1
    (repeat' (first | refine Wl.assignE (by conv => { lhs; whnf }) ?_ | refine Wl.nil ?_ | refine Qseq.normal ?_ | refine Wc.seq ?_ | refine Wc.region ?_ | refine Wl.fieldAddr rfl rfl ?_))
    (repeat' (refine Wl.load1 rfl (b1.cell rfl) ?_; (repeat' (first | refine Wl.moveE (by conv => { lhs; whnf }) ?_ | refine Wl.assignE (by conv => { lhs; whnf }) ?_ | refine Wl.nil ?_ | refine Wl.guardY rfl rfl ?_ | refine Wl.guardN rfl rfl ?_ | refine Wl.pickTE rfl (by conv => { lhs; whnf }) ?_ | refine Wl.pickFE rfl (by conv => { lhs; whnf }) ?_ | refine Wl.notB rfl ?_ | refine Qseq.normal ?_ | refine Wc.ret ?_ | refine Wl.fieldAddr rfl rfl ?_))))
    exact Qfn.ret1 rfl rfl ⟨_, rfl, rfl, n1⟩)
theorem may9 {w : World} {p : List UInt8} {d : Dv} : Calls Tryz.prog 62 #[dvV p d] w (Ret fun r w' => r = .bool (mayM d 9) ∧ New w w') := by
  rcases d with ⟨bo, on, sl, go⟩
  (
    refine calls_of_Wc Tryz.func62 rfl Tryz.ntmps62 rfl ?_
    (repeat' (first | refine Wc.seq ?_ | refine Wc.region ?_))
    refine Wl.box rfl fun w1 b1 n1 s1 => ?_
    replace b1 : Bk w1 w.heap.size tDev (dvC p _) := b1
    (repeat' (first | refine Wl.assignE (by conv => { lhs; whnf }) ?_ | refine Wl.nil ?_ | refine Qseq.normal ?_ | refine Wc.seq ?_ | refine Wc.region ?_ | refine Wc.ret ?_))
    (repeat' (refine Wl.load1 rfl (b1.cell rfl) ?_; skip))
    exact Qfn.ret1 rfl rfl ⟨_, rfl, rfl, n1⟩)
theorem do1 {w : World} {b : Nat} {p : List UInt8} {d : Dv} (h : Bk w b tDev (dvC p d)) : Calls Tryz.prog 47 #[pT b] w (Ret fun _ w' => Bk w' b tDev (dvC p (doM d 1)) ∧ Chg (fun k => k = b) w w') := by
  refine calls_of_Wc Tryz.func47 rfl Tryz.ntmps47 rfl ?_
  (repeat' (first | refine Wl.moveE (by conv => { lhs; whnf }) ?_ | refine Wc.region ?_ | refine Wl.nilP rfl ?_ | refine Wl.fieldAddr rfl rfl ?_))
  refine Wl.store1 h rfl (by simp [dvC]) rfl rfl fun w1 b1 c1 => ?_
  (repeat' (refine Wl.nil ?_))
  exact Qfn.end0 rfl ⟨_, rfl, b1, c1⟩
theorem do2 {w : World} {b : Nat} {p : List UInt8} {d : Dv} (h : Bk w b tDev (dvC p d)) : Calls Tryz.prog 49 #[pT b] w (Ret fun _ w' => Bk w' b tDev (dvC p (doM d 2)) ∧ Chg (fun k => k = b) w w') := by
  refine calls_of_Wc Tryz.func49 rfl Tryz.ntmps49 rfl ?_
  (repeat' (first | refine Wl.moveE (by conv => { lhs; whnf }) ?_ | refine Wc.region ?_ | refine Wl.nilP rfl ?_ | refine Wl.fieldAddr rfl rfl ?_))
  refine Wl.store1 h rfl (by simp [dvC]) rfl rfl fun w1 b1 c1 => ?_
  (repeat' (refine Wl.nil ?_))
  exact Qfn.end0 rfl ⟨_, rfl, b1, c1⟩
theorem do3 {w : World} {b : Nat} {p : List UInt8} {d : Dv} (h : Bk w b tDev (dvC p d)) : Calls Tryz.prog 51 #[pT b] w (Ret fun _ w' => Bk w' b tDev (dvC p (doM d 3)) ∧ Chg (fun k => k = b) w w') := by
  refine calls_of_Wc Tryz.func51 rfl Tryz.ntmps51 rfl ?_
  (repeat' (first | refine Wl.moveE (by conv => { lhs; whnf }) ?_ | refine Wc.region ?_ | refine Wl.nilP rfl ?_ | refine Wl.fieldAddr rfl rfl ?_))
  refine Wl.store1 h rfl (by simp [dvC]) rfl rfl fun w1 b1 c1 => ?_
  (repeat' (refine Wl.nil ?_))
  exact Qfn.end0 rfl ⟨_, rfl, b1, c1⟩
theorem do4 {w : World} {b : Nat} {p : List UInt8} {d : Dv} (h : Bk w b tDev (dvC p d)) : Calls Tryz.prog 53 #[pT b] w (Ret fun _ w' => Bk w' b tDev (dvC p (doM d 4)) ∧ Chg (fun k => k = b) w w') := by
  refine calls_of_Wc Tryz.func53 rfl Tryz.ntmps53 rfl ?_
  (repeat' (first | refine Wl.moveE (by conv => { lhs; whnf }) ?_ | refine Wc.region ?_ | refine Wl.nilP rfl ?_ | refine Wl.fieldAddr rfl rfl ?_))
  refine Wl.store1 h rfl (by simp [dvC]) rfl rfl fun w1 b1 c1 => ?_
  (repeat' (refine Wl.nil ?_))
  exact Qfn.end0 rfl ⟨_, rfl, b1, c1⟩
theorem do5 {w : World} {b : Nat} {p : List UInt8} {d : Dv} (h : Bk w b tDev (dvC p d)) : Calls Tryz.prog 55 #[pT b] w (Ret fun _ w' => Bk w' b tDev (dvC p (doM d 5)) ∧ Chg (fun k => k = b) w w') := by
  refine calls_of_Wc Tryz.func55 rfl Tryz.ntmps55 rfl ?_
  (repeat' (first | refine Wl.moveE (by conv => { lhs; whnf }) ?_ | refine Wc.region ?_ | refine Wl.nilP rfl ?_ | refine Wl.fieldAddr rfl rfl ?_))
  refine Wl.store1 h rfl (by simp [dvC]) rfl rfl fun w1 b1 c1 => ?_
  (repeat' (refine Wl.nil ?_))
  exact Qfn.end0 rfl ⟨_, rfl, b1, c1⟩
theorem do6 {w : World} {b : Nat} {p : List UInt8} {d : Dv} (h : Bk w b tDev (dvC p d)) : Calls Tryz.prog 57 #[pT b] w (Ret fun _ w' => Bk w' b tDev (dvC p (doM d 6)) ∧ Chg (fun k => k = b) w w') := by
  refine calls_of_Wc Tryz.func57 rfl Tryz.ntmps57 rfl ?_
  (repeat' (first | refine Wl.moveE (by conv => { lhs; whnf }) ?_ | refine Wc.region ?_ | refine Wl.nilP rfl ?_ | refine Wl.fieldAddr rfl rfl ?_))
  refine Wl.store1 h rfl (by simp [dvC]) rfl rfl fun w1 b1 c1 => ?_
  (repeat' (refine Wl.nil ?_))
  exact Qfn.end0 rfl ⟨_, rfl, b1, c1⟩
theorem do7 {w : World} {b : Nat} {p : List UInt8} {d : Dv} (h : Bk w b tDev (dvC p d)) : Calls Tryz.prog 59 #[pT b] w (Ret fun _ w' => Bk w' b tDev (dvC p (doM d 7)) ∧ Chg (fun k => k = b) w w') := by
  refine calls_of_Wc Tryz.func59 rfl Tryz.ntmps59 rfl ?_
  (repeat' (first | refine Wl.moveE (by conv => { lhs; whnf }) ?_ | refine Wc.region ?_ | refine Wl.nilP rfl ?_ | refine Wl.fieldAddr rfl rfl ?_))
  refine Wl.store1 h rfl (by simp [dvC]) rfl rfl fun w1 b1 c1 => ?_
  (repeat' (refine Wl.nil ?_))
  exact Qfn.end0 rfl ⟨_, rfl, b1, c1⟩
theorem do8 {w : World} {b : Nat} {p : List UInt8} {d : Dv} (h : Bk w b tDev (dvC p d)) : Calls Tryz.prog 61 #[pT b] w (Ret fun _ w' => Bk w' b tDev (dvC p (doM d 8)) ∧ Chg (fun k => k = b) w w') := by
  refine calls_of_Wc Tryz.func61 rfl Tryz.ntmps61 rfl ?_
  (repeat' (first | refine Wl.moveE (by conv => { lhs; whnf }) ?_ | refine Wc.region ?_ | refine Wl.nilP rfl ?_ | refine Wl.fieldAddr rfl rfl ?_))
  refine Wl.store1 h rfl (by simp [dvC]) rfl rfl fun w1 b1 c1 => ?_
  (repeat' (refine Wl.nil ?_))
  exact Qfn.end0 rfl ⟨_, rfl, b1, c1⟩
theorem do9 {w : World} {b : Nat} {p : List UInt8} {d : Dv} (h : Bk w b tDev (dvC p d)) : Calls Tryz.prog 63 #[pT b] w (Ret fun _ w' => Bk w' b tDev (dvC p (doM d 9)) ∧ Chg (fun k => k = b) w w') := by
  refine calls_of_Wc Tryz.func63 rfl Tryz.ntmps63 rfl ?_
  (repeat' (refine Wc.skip ?_))
  exact Qfn.end0 rfl ⟨_, rfl, h, Chg.refl _ _⟩
theorem may_spec {w : World} {p : List UInt8} {d : Dv} {k : Nat} (h0 : 1 ≤ k) (h9 : k ≤ 9) : Calls Tryz.prog (mayF k) #[dvV p d] w (Ret fun r w' => r = .bool (mayM d k) ∧ New w w') := by
  rcases kinds9 h0 h9 with rfl | rfl | rfl | rfl | rfl | rfl | rfl | rfl | rfl
  · exact may1
  · exact may2
  · exact may3
  · exact may4
  · exact may5
  · exact may6
  · exact may7
  · exact may8
  · exact may9
theorem do_spec {w : World} {b : Nat} {p : List UInt8} {d : Dv} {k : Nat} (h0 : 1 ≤ k) (h9 : k ≤ 9) (h : Bk w b tDev (dvC p d)) : Calls Tryz.prog (doF k) #[pT b] w (Ret fun _ w' => Bk w' b tDev (dvC p (doM d k)) ∧ Chg (fun k => k = b) w w') := by
  rcases kinds9 h0 h9 with rfl | rfl | rfl | rfl | rfl | rfl | rfl | rfl | rfl
  · exact do1 h
  · exact do2 h
  · exact do3 h
  · exact do4 h
  · exact do5 h
  · exact do6 h
  · exact do7 h
  · exact do8 h
  · exact do9 h
theorem may_call {k : Nat} (h0 : 1 ≤ k) (h9 : k ≤ 9) : Callable Tryz.prog (mayF k) := by
  rcases kinds9 h0 h9 with rfl | rfl | rfl | rfl | rfl | rfl | rfl | rfl | rfl
  · exact (inferInstance : Callable Tryz.prog 46)
  · exact (inferInstance : Callable Tryz.prog 48)
  · exact (inferInstance : Callable Tryz.prog 50)
  · exact (inferInstance : Callable Tryz.prog 52)
  · exact (inferInstance : Callable Tryz.prog 54)
  · exact (inferInstance : Callable Tryz.prog 56)
  · exact (inferInstance : Callable Tryz.prog 58)
  · exact (inferInstance : Callable Tryz.prog 60)
  · exact (inferInstance : Callable Tryz.prog 62)
theorem do_call {k : Nat} (h0 : 1 ≤ k) (h9 : k ≤ 9) : Callable Tryz.prog (doF k) := by
  rcases kinds9 h0 h9 with rfl | rfl | rfl | rfl | rfl | rfl | rfl | rfl | rfl
  · exact (inferInstance : Callable Tryz.prog 47)
  · exact (inferInstance : Callable Tryz.prog 49)
  · exact (inferInstance : Callable Tryz.prog 51)
  · exact (inferInstance : Callable Tryz.prog 53)
  · exact (inferInstance : Callable Tryz.prog 55)
  · exact (inferInstance : Callable Tryz.prog 57)
  · exact (inferInstance : Callable Tryz.prog 59)
  · exact (inferInstance : Callable Tryz.prog 61)
  · exact ⟨⟨_, Tryz.func63, by kernel_rfl, by kernel_rfl⟩⟩
theorem kB : Maps.Keyed Tryz.prog 5 := Maps.int_keyed Tryz.underlying5
theorem keyB {i : Nat} (h : i < 256) : keyOf Tryz.prog 5 (.int .u8 i) = some (.int .u8 i) :=
  Maps.keyOf_int_mk Tryz.underlying5 (by simp [Lit.wf, IntKind.min, IntKind.max, IntKind.signed, IntKind.bits]; omega)
theorem rule_in {k : Nat} {r : Value} (h : ((.int .u8 (k : Nat) : Value), r) ∈ ruleL) : 1 ≤ k ∧ k ≤ 9 ∧ r = ruleV k := by
  unfold ruleL at h
  obtain ⟨j, hj, e⟩ := List.mem_map.1 h
  obtain ⟨e1, e2⟩ := Prod.mk.inj e
  injection e1 with _ e3
  have : j = k := by omega
  subst this
  simp at hj
  exact ⟨by omega, by omega, e2.symm⟩
theorem rule_out {k : Nat} (h : ∀ p ∈ ruleL, p.1 ≠ (.int .u8 (k : Nat) : Value)) : k = 0 ∨ 10 ≤ k := by
  rcases Nat.eq_zero_or_pos k with h0 | h0
  · exact .inl h0
  · rcases Nat.lt_or_ge k 10 with h9 | h9
    · exfalso
      refine h (.int .u8 k, ruleV k) ?_ rfl
      rcases kinds9 h0 (by omega) with rfl | rfl | rfl | rfl | rfl | rfl | rfl | rfl | rfl <;> simp [ruleL]
    · exact .inr h9
set_option maxHeartbeats 1000000 in
theorem rules_spec {w : World} : Calls Tryz.prog 30 #[] w (Ret fun r w' => ∃ b, r = .map (some b) ∧ MapL Tryz.prog 5 w' b ruleL ∧ w.heap.size ≤ b ∧ New w w') := by
  refine calls_of_Wc Tryz.func30 rfl Tryz.ntmps30 rfl ?_
  (repeat' (first | refine Wl.assignE (by conv => { lhs; whnf }) ?_ | refine Wl.nil ?_ | refine Qseq.normal ?_ | refine Wc.seq ?_ | refine Wc.region ?_))
  refine Wl.makeMap (k := 5) fun w0 m0 n0 s0 => ?_
  have z0 := n0.size
  refine Wl.buildG (u := ruleV 1) rfl (by kernel_rfl) ?_
  refine Wk.Wl.mapInsP (key := .int .u8 (1 : Nat)) (u := ruleV 1) kB m0 (keyB (by decide)) (by simp) rfl rfl rfl fun w1 m1 c1 s1 => ?_
  refine Wl.buildG (u := ruleV 2) rfl (by kernel_rfl) ?_
  refine Wk.Wl.mapInsP (key := .int .u8 (2 : Nat)) (u := ruleV 2) kB m1 (keyB (by decide)) (by simp) rfl rfl rfl fun w2 m2 c2 s2 => ?_
  refine Wl.buildG (u := ruleV 3) rfl (by kernel_rfl) ?_
  refine Wk.Wl.mapInsP (key := .int .u8 (3 : Nat)) (u := ruleV 3) kB m2 (keyB (by decide)) (by simp) rfl rfl rfl fun w3 m3 c3 s3 => ?_
  refine Wl.buildG (u := ruleV 4) rfl (by kernel_rfl) ?_
  refine Wk.Wl.mapInsP (key := .int .u8 (4 : Nat)) (u := ruleV 4) kB m3 (keyB (by decide)) (by simp) rfl rfl rfl fun w4 m4 c4 s4 => ?_
  refine Wl.buildG (u := ruleV 5) rfl (by kernel_rfl) ?_
  refine Wk.Wl.mapInsP (key := .int .u8 (5 : Nat)) (u := ruleV 5) kB m4 (keyB (by decide)) (by simp) rfl rfl rfl fun w5 m5 c5 s5 => ?_
  refine Wl.buildG (u := ruleV 6) rfl (by kernel_rfl) ?_
  refine Wk.Wl.mapInsP (key := .int .u8 (6 : Nat)) (u := ruleV 6) kB m5 (keyB (by decide)) (by simp) rfl rfl rfl fun w6 m6 c6 s6 => ?_
  refine Wl.buildG (u := ruleV 7) rfl (by kernel_rfl) ?_
  refine Wk.Wl.mapInsP (key := .int .u8 (7 : Nat)) (u := ruleV 7) kB m6 (keyB (by decide)) (by simp) rfl rfl rfl fun w7 m7 c7 s7 => ?_
  refine Wl.buildG (u := ruleV 8) rfl (by kernel_rfl) ?_
  refine Wk.Wl.mapInsP (key := .int .u8 (8 : Nat)) (u := ruleV 8) kB m7 (keyB (by decide)) (by simp) rfl rfl rfl fun w8 m8 c8 s8 => ?_
  refine Wl.buildG (u := ruleV 9) rfl (by kernel_rfl) ?_
  refine Wk.Wl.mapInsP (key := .int .u8 (9 : Nat)) (u := ruleV 9) kB m8 (keyB (by decide)) (by simp) rfl rfl rfl fun w9 m9 c9 s9 => ?_
  have n9 : New w w9 := by
    refine Chg.trans n0 (M' := fun j => j = w.heap.size) ?_ fun k hk e => by omega
    refine Chg.trans c1 ?_ (fun _ _ e => e)
    refine Chg.trans c2 ?_ (fun _ _ e => e)
    refine Chg.trans c3 ?_ (fun _ _ e => e)
    refine Chg.trans c4 ?_ (fun _ _ e => e)
    refine Chg.trans c5 ?_ (fun _ _ e => e)
    refine Chg.trans c6 ?_ (fun _ _ e => e)
    refine Chg.trans c7 ?_ (fun _ _ e => e)
    exact Chg.trans c8 c9 (fun _ _ e => e)
  (repeat' (first | refine Wl.moveE (by conv => { lhs; whnf }) ?_ | refine Wl.assignE (by conv => { lhs; whnf }) ?_ | refine Wl.nil ?_ | refine Qseq.normal ?_ | refine Wc.ret ?_))
  exact Qfn.ret1 rfl rfl ⟨_, rfl, w.heap.size, rfl, m9, Nat.le_refl _, n9⟩
end Go.Proofs.YtjaendlcijmifaaGreatDoor

namespace Go.Proofs
open Go.Shelf
def Tryz.sortD_ren : Go.Shelf.Ren := ⟨fun | 6 => 31 | 15 => 65 | 14 => 64 | 28 => 86 | 29 => 87 | 20 => 78 | 21 => 79 | 22 => 80 | 23 => 81 | 24 => 82 | 25 => 83 | 26 => 84 | 27 => 85 | 46 => 103 | 47 => 104 | 48 => 105 | 49 => 106 | 50 => 107 | 57 => 120 | n => n, fun | 22 => 78 | 24 => 84 | 25 => 87 | 3 => 3 | 39 => 107 | 0 => 0 | 53 => 123 | 55 => 24 | 4 => 4 | 46 => 117 | 45 => 116 | 50 => 63 | 5 => 5 | 9 => 9 | 66 => 138 | 70 => 141 | 76 => 155 | 77 => 156 | n => n, fun | n => n⟩
theorem Tryz.sortD : Go.Proofs.SlLaysF.n6 Tryz.prog Tryz.sortD_ren := {
  mixed := by kernel_rfl
  f6 := ⟨Tryz.f31.name, by decide, Tryz.func31.trans (congrArg some (by kernel_rfl))⟩
  f14 := ⟨Tryz.f64.name, by decide, Tryz.func64.trans (congrArg some (by kernel_rfl))⟩
  f15 := Tryz.func65.trans (congrArg some (by kernel_rfl))
  f20 := ⟨Tryz.f78.name, by decide, Tryz.func78.trans (congrArg some (by kernel_rfl))⟩
  f21 := ⟨Tryz.f79.name, by decide, Tryz.func79.trans (congrArg some (by kernel_rfl))⟩
  f22 := ⟨Tryz.f80.name, by decide, Tryz.func80.trans (congrArg some (by kernel_rfl))⟩
  f23 := ⟨Tryz.f81.name, by decide, Tryz.func81.trans (congrArg some (by kernel_rfl))⟩
  f24 := ⟨Tryz.f82.name, by decide, Tryz.func82.trans (congrArg some (by kernel_rfl))⟩
  f25 := ⟨Tryz.f83.name, by decide, Tryz.func83.trans (congrArg some (by kernel_rfl))⟩
  f26 := ⟨Tryz.f84.name, by decide, Tryz.func84.trans (congrArg some (by kernel_rfl))⟩
  f27 := ⟨Tryz.f85.name, by decide, Tryz.func85.trans (congrArg some (by kernel_rfl))⟩
  f28 := Tryz.func86.trans (congrArg some (by kernel_rfl))
  f29 := Tryz.func87.trans (congrArg some (by kernel_rfl))
  f46 := ⟨Tryz.f103.name, by decide, Tryz.func103.trans (congrArg some (by kernel_rfl))⟩
  f47 := Tryz.func104.trans (congrArg some (by kernel_rfl))
  f48 := Tryz.func105.trans (congrArg some (by kernel_rfl))
  f49 := ⟨Tryz.f106.name, by decide, Tryz.func106.trans (congrArg some (by kernel_rfl))⟩
  f50 := ⟨Tryz.f107.name, by decide, Tryz.func107.trans (congrArg some (by kernel_rfl))⟩
  f57 := ⟨Tryz.f120.name, by decide, Tryz.func120.trans (congrArg some (by kernel_rfl))⟩
  t0 := Tryz.underlying0
  a0 := Tryz.isAgg0
  z0 := Tryz.sizeOf0
  v0 := Tryz.zeroValue0
  t3 := Tryz.underlying3
  a3 := Tryz.isAgg3
  z3 := Tryz.sizeOf3
  v3 := Tryz.zeroValue3
  t4 := Tryz.underlying4
  a4 := Tryz.isAgg4
  z4 := Tryz.sizeOf4
  v4 := Tryz.zeroValue4
  t5 := Tryz.underlying5
  a5 := Tryz.isAgg5
  z5 := Tryz.sizeOf5
  v5 := Tryz.zeroValue5
  t9 := Tryz.underlying9
  a9 := Tryz.isAgg9
  z9 := Tryz.sizeOf9
  v9 := Tryz.zeroValue9
  t22 := Tryz.underlying78
  a22 := Tryz.isAgg78
  z22 := Tryz.sizeOf78
  v22 := Tryz.zeroValue78
  a24 := Tryz.isAgg84
  z24 := Tryz.sizeOf84
  t25 := Tryz.underlying87
  a25 := Tryz.isAgg87
  z25 := Tryz.sizeOf87
  v25 := Tryz.zeroValue87
  t39 := Tryz.underlying107
  a39 := Tryz.isAgg107
  z39 := Tryz.sizeOf107
  v39 := Tryz.zeroValue107
  t45 := Tryz.underlying116
  a45 := Tryz.isAgg116
  z45 := Tryz.sizeOf116
  v45 := Tryz.zeroValue116
  t46 := Tryz.underlying117
  a46 := Tryz.isAgg117
  z46 := Tryz.sizeOf117
  v46 := Tryz.zeroValue117
  t50 := Tryz.underlying63
  a50 := Tryz.isAgg63
  z50 := Tryz.sizeOf63
  v50 := Tryz.zeroValue63
  t53 := Tryz.underlying123
  a53 := Tryz.isAgg123
  z53 := Tryz.sizeOf123
  v53 := Tryz.zeroValue123
  t55 := Tryz.underlying24
  a55 := Tryz.isAgg24
  z55 := Tryz.sizeOf24
  v55 := Tryz.zeroValue24
  t66 := Tryz.underlying138
  a66 := Tryz.isAgg138
  z66 := Tryz.sizeOf138
  v66 := Tryz.zeroValue138
  t70 := Tryz.underlying141
  a70 := Tryz.isAgg141
  z70 := Tryz.sizeOf141
  v70 := Tryz.zeroValue141
  t76 := Tryz.underlying155
  a76 := Tryz.isAgg155
  z76 := Tryz.sizeOf155
  v76 := Tryz.zeroValue155
  t77 := Tryz.underlying156
  a77 := Tryz.isAgg156
  z77 := Tryz.sizeOf156
  v77 := Tryz.zeroValue156 }
end Go.Proofs

namespace Go.Proofs.YtjaendlcijmifaaGreatDoor
open Go Wk
open Go.RowKit (Below)
open Go.Sort (SWO Holds)
attribute [local irreducible] Go.Calls

section
variable {P : Program} {n : Nat} {ds : List Deferred} {Q : Po} {F : Fr} {w : World} {ops rest : List Oper} {d : Nat} {ty t t' : TypeId} {pos : String} {aft : Array Edge} {x y : Operand} {a b : List UInt8}
theorem Wk.Wl.slss (hx : ev n F x = vs a) (hy : ev n F y = vs b) (ht : a < b → Wl P n ds Q ops rest (upd F d (.bool true)) w) (hf : ¬ a < b → Wl P n ds Q ops rest (upd F d (.bool false)) w) :
    Wl P n ds Q ops (⟨some d, .binOp .lss t x y t', ty, pos, aft, none⟩ :: rest) F w := by
  by_cases h : a < b
  · exact Wl.val (by simp only [execOp, hx, hy, Sem.run_bind, run_eqGuard_str, Result.andThen_ok, binOp_string_lss, ByteArray.toList_mk, Sem.run_pure, bytesLess_eq, decide_eq_true h]) (ht h)
  · exact Wl.val (by simp only [execOp, hx, hy, Sem.run_bind, run_eqGuard_str, Result.andThen_ok, binOp_string_lss, ByteArray.toList_mk, Sem.run_pure, bytesLess_eq, decide_eq_false h]) (hf h)
theorem Wk.Wl.sgtr (hx : ev n F x = vs a) (hy : ev n F y = vs b) (ht : b < a → Wl P n ds Q ops rest (upd F d (.bool true)) w) (hf : ¬ b < a → Wl P n ds Q ops rest (upd F d (.bool false)) w) :
    Wl P n ds Q ops (⟨some d, .binOp .gtr t x y t', ty, pos, aft, none⟩ :: rest) F w := by
  have e : (!(decide (a < b) || a == b)) = decide (b < a) := by
    by_cases h : a < b
    · rw [decide_eq_true h, decide_eq_false (List.lt_asymm h)]; rfl
    · by_cases h2 : a = b
      · subst h2; rw [decide_eq_false h]; simp
      · rw [decide_eq_false h, decide_eq_true (lt_of_not h h2), beq_eq_false_iff_ne.2 h2]; rfl
  have r : (execOp (ev n F) ⟨some d, .binOp .gtr t x y t', ty, pos, aft, none⟩).run P w = .ok (.value (.bool (decide (b < a)))) w := by
    simp only [execOp, hx, hy, Sem.run_bind, run_eqGuard_str, Result.andThen_ok, binOp_string_gtr, ByteArray.toList_mk, Sem.run_pure, bytesLess_eq, e]
  by_cases h : b < a
  · rw [decide_eq_true h] at r; exact Wl.val r (ht h)
  · rw [decide_eq_false h] at r; exact Wl.val r (hf h)
end
/-- cmp.Compare of texts. -/
def cmpS (a b : List UInt8) : Int := if a < b then -1 else if b < a then 1 else 0
theorem cmpS_lt (a b : List UInt8) : decide (cmpS a b < 0) = decide (a < b) := by
  unfold cmpS; split
  · rename_i h; simp [h]
  · rename_i h; split <;> simp [h]
theorem isNaN_spec {w : World} {a : List UInt8} : Calls Tryz.prog 66 #[vs a] w (Ret fun r w' => r = .bool false ∧ w = w') := by
  refine calls_of_Wc Tryz.func66 rfl Tryz.ntmps66 rfl ?_
  (repeat' (first | refine Wl.moveE (by conv => { lhs; whnf }) ?_ | refine Wl.assignE (by conv => { lhs; whnf }) ?_ | refine Wl.nil ?_ | refine Qseq.normal ?_ | refine Wc.seq ?_ | refine Wc.region ?_ | refine Wc.ret ?_ | (refine Wl.sneq rfl rfl (fun _ => ?_) (fun _ => ?_) <;> (first | (exfalso; contradiction) | skip))))
  all_goals first | contradiction | exact Qfn.ret1 rfl rfl ⟨_, rfl, rfl, rfl⟩
theorem Compare_spec {w : World} {a b : List UInt8} : Calls Tryz.prog 33 #[vs a, vs b] w (Ret fun r w' => r = vi (cmpS a b) ∧ w = w') := by
  refine calls_of_Wc Tryz.func33 rfl Tryz.ntmps33 rfl ?_
  (repeat' (first | refine Wl.moveE (by conv => { lhs; whnf }) ?_ | refine Wl.assignE (by conv => { lhs; whnf }) ?_ | refine Wl.nil ?_ | refine Qseq.normal ?_ | refine Wc.seq ?_ | refine Wc.region ?_))
  refine Wl.call isNaN_spec rfl ?_
  rintro _ _ ⟨rfl, rfl⟩
  (repeat' (first | refine Wl.moveE (by conv => { lhs; whnf }) ?_ | refine Wl.assignE (by conv => { lhs; whnf }) ?_ | refine Wl.nil ?_ | refine Qseq.normal ?_ | refine Wc.seq ?_ | refine Wc.region ?_))
  refine Wl.call isNaN_spec rfl ?_
  rintro _ _ ⟨rfl, rfl⟩
  (repeat' (first | refine Wl.moveE (by conv => { lhs; whnf }) ?_ | refine Wl.assignE (by conv => { lhs; whnf }) ?_ | refine Wl.nil ?_ | refine Qseq.normal ?_ | refine Wc.seq ?_ | refine Wc.region ?_ | refine Wc.skip ?_ | refine Wc.condF rfl ?_))
  refine Wk.Wl.slss rfl rfl (fun h => ?_) (fun h => ?_)
  · (repeat' (first | refine Wl.assignE (by conv => { lhs; whnf }) ?_ | refine Wl.nil ?_ | refine Qseq.normal ?_ | refine Wc.seq ?_ | refine Wc.region ?_ | refine Wc.ret ?_ | refine Qseq.ret ?_ | refine Wc.condT rfl ?_))
    refine Qfn.ret1 rfl rfl ⟨_, rfl, ?_, rfl⟩
    unfold cmpS; rw [if_pos h]; rfl
  · (repeat' (first | refine Wl.moveE (by conv => { lhs; whnf }) ?_ | refine Wl.nil ?_ | refine Qseq.normal ?_ | refine Wc.seq ?_ | refine Wc.region ?_ | refine Wc.skip ?_ | refine Wc.condF rfl ?_))
    refine Wk.Wl.sgtr rfl rfl (fun h' => ?_) (fun h' => ?_)
    · (repeat' (first | refine Wl.assignE (by conv => { lhs; whnf }) ?_ | refine Wl.nil ?_ | refine Qseq.normal ?_ | refine Wc.seq ?_ | refine Wc.region ?_ | refine Wc.ret ?_ | refine Qseq.ret ?_ | refine Wc.condT rfl ?_))
      refine Qfn.ret1 rfl rfl ⟨_, rfl, ?_, rfl⟩
      unfold cmpS; rw [if_neg h, if_pos h']; rfl
    · (repeat' (first | refine Wl.assignE (by conv => { lhs; whnf }) ?_ | refine Wl.nil ?_ | refine Qseq.normal ?_ | refine Wc.seq ?_ | refine Wc.region ?_ | refine Wc.skip ?_ | refine Wc.ret ?_ | refine Wc.condF rfl ?_))
      refine Qfn.ret1 rfl rfl ⟨_, rfl, ?_, rfl⟩
      unfold cmpS; rw [if_neg h, if_neg h']; rfl
theorem order_spec {w : World} {i j : Nat} {p q : List UInt8} {d e : Dv} (hi : Bk w i tDev (dvC p d)) (hj : Bk w j tDev (dvC q e)) : Calls Tryz.prog 32 #[pT i, pT j] w (Ret fun r w' => r = vi (cmpS p q) ∧ ∃ n, w' = w.drewN n) := by
  refine calls_of_Wc Tryz.func32 rfl Tryz.ntmps32 rfl ?_
  (repeat' (first | refine Wl.assignE (by conv => { lhs; whnf }) ?_ | refine Wl.nil ?_ | refine Qseq.normal ?_ | refine Wc.seq ?_ | refine Wc.region ?_))
  refine Wc.regionQ (fun w' => ∃ n, w' = w.drewN n) rfl (by kernel_rfl) ⟨1, rfl⟩ ?_
  (repeat' (first | refine Wq.moveE (by conv => { lhs; whnf }) ?_ | refine Wq.nilP rfl ?_ | refine Wq.fieldAddr rfl rfl ?_))
  refine Wq.load1 rfl (fun w' h => by obtain ⟨n, rfl⟩ := h; exact hi.cell (o := 0) rfl) ?_
  (repeat' (first | refine Wq.moveE (by conv => { lhs; whnf }) ?_ | refine Wq.nilP rfl ?_ | refine Wq.fieldAddr rfl rfl ?_))
  refine Wq.load1 rfl (fun w' h => by obtain ⟨n, rfl⟩ := h; exact hj.cell (o := 0) rfl) ?_
  refine Wq.call (v := vi (cmpS p q)) (fun w' h => Compare_spec.mono ?_) rfl ?_
  · rintro _ w'' ⟨v, rfl, rfl, rfl⟩
    exact ⟨rfl, h⟩
  (repeat' (first | refine Wq.assignE (by conv => { lhs; whnf }) ?_ | refine Wq.nil ?_))
  rintro w' h
  (repeat' (first | refine Qseq.normal ?_ | refine Wc.ret ?_))
  exact Qfn.ret1 rfl rfl ⟨_, rfl, rfl, h⟩
section
variable {α : Type} [Inhabited α] {enc : α → Value} {w : World} {blk n : Nat} {d : Array α} {os : Array Obj}
theorem chg_sortWorld (hb : blk < w.heap.size) : Chg (fun j => j = blk) w (sortWorld enc w blk 0 n d os) :=
  ⟨rfl, rfl, rfl, by simp [sortWorld, Sort.grow, Sort.putRow, Sort.mapBlock, Sort.ahead], fun j hj hn => by
    have : ¬ blk = j := fun e => hn e.symm
    simp only [sortWorld, Sort.grow, Sort.putRow, Sort.mapBlock, Sort.ahead]
    rw [Array.getElem?_append_left (by simpa using hj), Array.getElem?_modify, if_neg this]⟩
theorem heap_sortWorld {cs : Array Value} {T : TypeId} (h : w.heap[blk]? = some (.cells cs T (0, 0))) : (sortWorld enc w blk 0 n d os).heap[blk]? = some (.cells (Sort.putCells enc 0 d cs) T (0, 0)) := by
  have hb := (Array.getElem?_eq_some_iff.1 h).1
  simp only [sortWorld, Sort.grow, Sort.putRow, Sort.mapBlock, Sort.ahead]
  rw [Array.getElem?_append_left (by simpa using hb), Array.getElem?_modify, if_pos rfl, h]
  rfl
end
/-- A device in memory: its block, its path, what it is. -/
abbrev Pd := Nat × List UInt8 × Dv
abbrev pdV : Pd → Value := fun x => pT x.1
theorem goodPd : GoodR (Wk.one pdV) 1 := good_one _ fun _ => rfl
theorem sort_spec {Pb : Nat → Prop} {w : World} {L : List Pd} {v : Value} (own : OwnS (Wk.one pdV) 84 1 Pb No w v L) (hdev : ∀ x ∈ L, Bk w x.1 tDev (dvC x.2.1 x.2.2)) (hk : L.Pairwise fun a b => a.2.1 ≠ b.2.1) (hsep : ∀ x ∈ L, v.ownBlock ≠ some x.1) (hlen : L.length ≤ 2000000) :
    Calls Tryz.prog 31 #[v, .func (.func 32) #[] #[]] w (Ret fun _ w' => ∃ L', L'.Perm L ∧ (L'.Pairwise fun a b => a.2.1 < b.2.1) ∧ OwnS (Wk.one pdV) 84 1 Pb No w' v L' ∧ Chg (fun k => v.ownBlock = some k) w w') := by
  by_cases hL : L = []
  · subst hL
    obtain ⟨a, cap, rfl, _, _⟩ := own.form
    refine (AnyF.slices_SortFunc_none ({ Tryz.sortD with } : SlLaysF0.n6 Tryz.prog Tryz.sortD_ren) a cap _ w).mono ?_
    rintro _ w' ⟨rfl, rfl⟩
    exact ⟨_, rfl, [], .nil, .nil, own, Chg.refl _ _⟩
  obtain ⟨g, cap, hv, _, hg, hvb⟩ := own.blk hL
  subst hv
  obtain ⟨x0, hx0⟩ := List.exists_mem_of_ne_nil _ hL
  haveI : Inhabited { x : Pd // x ∈ L } := ⟨⟨x0, hx0⟩⟩
  obtain ⟨hcl, h0 | ⟨g', cap', cur, e1, hPg, hheap, h1, h2, h3, h4⟩⟩ := own.to1
  · exact absurd h0.1 (by simp)
  cases e1
  let enc : { x : Pd // x ∈ L } → Value := fun x => pdV x.1
  let cf : { x : Pd // x ∈ L } → { x : Pd // x ∈ L } → Int := fun x y => cmpS x.1.2.1 y.1.2.1
  have hlt : ∀ x y, ltOf cf x y = decide (x.1.2.1 < y.1.2.1) := fun x y => cmpS_lt _ _
  have hO : SWO (ltOf cf) := by
    refine ⟨fun x => ?_, fun x y z h1 h2 => ?_, fun x y z h1 h2 => ?_⟩
    · rw [hlt, decide_eq_false (List.lt_irrefl _)]
    · rw [hlt] at *
      exact decide_eq_true (List.lt_trans (of_decide_eq_true h1) (of_decide_eq_true h2))
    · rw [hlt] at *
      refine decide_eq_false fun h => ?_
      have h1' := of_decide_eq_false h1
      have h2' := of_decide_eq_false h2
      by_cases e : y.1.2.1 = z.1.2.1
      · rw [e] at h1'; exact h1' h
      · exact h1' (List.lt_trans h (lt_of_not h2' e))
  have hT : ∀ x y, (ltOf cf) x y = false → (ltOf cf) y x = false → x = y := by
    intro x y h1 h2
    rw [hlt] at h1 h2
    have e : x.1.2.1 = y.1.2.1 := by
      by_cases e : x.1.2.1 = y.1.2.1
      · exact e
      · exact absurd (lt_of_not (of_decide_eq_false h1) e) (of_decide_eq_false h2)
    have key : ∀ {L : List Pd}, (L.Pairwise fun a b => a.2.1 ≠ b.2.1) → ∀ a ∈ L, ∀ b ∈ L, a.2.1 = b.2.1 → a = b := by
      intro L
      induction L with
      | nil => intro _ a ha; simp at ha
      | cons c L ih =>
        intro hp a ha b hb hab
        obtain ⟨q1, q2⟩ := List.pairwise_cons.1 hp
        rcases List.mem_cons.1 ha with ha | ha <;> rcases List.mem_cons.1 hb with hb | hb
        · rw [ha, hb]
        · exact absurd (by rw [← ha]; exact hab) (q1 b hb)
        · exact absurd (by rw [← hb]; exact hab.symm) (q1 a ha)
        · exact ih q2 a ha b hb hab
    exact Subtype.ext (key hk x.1 x.2 y.1 y.2 e)
  have hds : L.attach.toArray.size = L.length := by simp
  have hcur : ∀ (j : Nat) (hj : j < L.length), cur[j]? = some (pdV L[j]) := by
    intro j hj
    have h5 : (List.take (L.length * 1) cur.toList)[j]? = (L.map pdV)[j]? := by rw [h4]
    rw [List.getElem?_take, if_pos (by omega), List.getElem?_map, List.getElem?_eq_getElem hj] at h5
    simpa using h5
  have hH : Holds enc w g 0 L.attach.toArray := by
    intro j hj
    rw [hds] at hj
    refine ⟨?_, ?_⟩
    · simp only [World.cell?, hheap, Nat.zero_add]
      have : L.attach.toArray[j]! = ⟨L[j], List.getElem_mem hj⟩ := by simp [hj]
      rw [this]
      simpa using hcur j hj
    · simp [World.frozen?, hheap]
  have hcmp : CmpLays1 Tryz.prog 32 #[] enc cf g 0 L.attach.toArray.size w := by
    intro m os dk hs x y
    have cg := chg_sortWorld (enc := enc) (n := m) (d := dk) (os := os) hg
    have bx := (hdev x.1 x.2).chg cg fun e => hsep x.1 x.2 (by rw [e]; rfl)
    have by' := (hdev y.1 y.2).chg cg fun e => hsep y.1 y.2 (by rw [e]; rfl)
    refine (order_spec bx by').mono ?_
    rintro _ w' ⟨v, rfl, rfl, q, rfl⟩
    exact ⟨rfl, q, #[], by rw [Sort.grow_empty]⟩
  have h := Any.slices_SortFunc_total Tryz.sortD enc (fun _ => rfl) cf hO 32 #[] g 0 cap L.attach.toArray w (fun args w => run_callFunc (inferInstance : Callable Tryz.prog 32) args) hcmp hH hg (by rw [hds]; omega) hT
  rw [hds] at h
  refine h.mono ?_
  rintro _ w' ⟨rfl, n, os, rfl⟩
  have hAt : L.attach.toArray.toList = L.attach := rfl
  have hp0 := List.mergeSort_perm L.attach.toArray.toList fun x y => !(ltOf cf) y x
  have hs0 := List.pairwise_mergeSort (le := fun x y : { x : Pd // x ∈ L } => !(ltOf cf) y x) (fun a b c h1 h2 => by
    simp only [Bool.not_eq_true'] at h1 h2 ⊢
    exact hO.ntrans c b a h2 h1) (fun a b => by
    rw [hlt, hlt]
    by_cases e : b.1.2.1 < a.1.2.1
    · rw [decide_eq_false (List.lt_asymm e)]; simp
    · rw [decide_eq_false e]; simp) L.attach.toArray.toList
  generalize L.attach.toArray.toList.mergeSort (fun x y => !(ltOf cf) y x) = D at hp0 hs0 ⊢
  have hperm : (D.map (·.1)).Perm L := by
    have := hp0.map (fun x : { x : Pd // x ∈ L } => x.1)
    rwa [hAt, List.attach_map_subtype_val] at this
  have hDl : D.length = L.length := by have := hperm.length_eq; simpa using this
  refine ⟨_, rfl, D.map (·.1), hperm, ?_, ?_, (chg_sortWorld hg).mono fun k _ e => by rw [e]; rfl⟩
  · have hk' := (hperm.pairwise_iff (R := fun a b : Pd => a.2.1 ≠ b.2.1) fun h => h.symm).2 hk
    have hs1 : (D.map (·.1)).Pairwise fun a b : Pd => ¬ b.2.1 < a.2.1 := by
      rw [List.pairwise_map]
      refine hs0.imp fun {a b} hab => ?_
      rw [hlt] at hab
      simpa using hab
    exact (hs1.and hk').imp fun {a b} hab => lt_of_not hab.1 fun e => hab.2 e.symm
  · refine OwnS.of1 (m := L.length) (by simp [hDl]) ⟨by simp [hDl], .inr ⟨g, cap, _, rfl, hPg, heap_sortWorld hheap, h1, h2, by simp [Sort.putCells, h3], ?_⟩⟩
    apply List.ext_getElem?
    intro j
    rw [List.getElem?_take]
    by_cases hj : j < L.length
    · rw [if_pos (by omega), Array.getElem?_toList, Sort.putCells, Array.getElem?_mapIdx, hcur j hj, Option.map_some, if_pos ⟨Nat.zero_le _, by simp; omega⟩]
      have hjD : j < D.length := by omega
      rw [List.getElem?_map, List.getElem?_map, List.getElem?_eq_getElem hjD]
      simp [hjD, enc]
    · rw [if_neg (by omega), List.getElem?_eq_none (by simp; omega)]
end Go.Proofs.YtjaendlcijmifaaGreatDoor

namespace Go.Proofs.YtjaendlcijmifaaGreatDoor
open Go Wk
open Go.RowKit (Below)
attribute [local irreducible] Go.Calls

theorem kS : Maps.Keyed Tryz.prog 9 := Maps.string_keyed Tryz.underlying9
theorem keyS (s : List UInt8) (h : s.length ≤ maxLen) : ∃ q, keyOf Tryz.prog 9 (vs s) = some q :=
  ⟨_, WideMaps.keyOf_string_mk Tryz.underlying9 (by simpa only [ByteArray.size, List.size_toArray] using h)⟩
abbrev setV1 {α : Type} (f : α → Value) (ks : List α) : List (Value × Value) := ks.map fun k => (f k, vi 1)
abbrev pdK : Pd → Value × Value := fun x => (vs x.2.1, pT x.1)
theorem uniq_of {α β : Type} {f : α → β} {L : List α} (hp : L.Pairwise fun a b => f a ≠ f b) : ∀ a ∈ L, ∀ b ∈ L, f a = f b → a = b := by
  induction L with
  | nil => intro a ha; simp at ha
  | cons c L ih =>
    intro a ha b hb hab
    obtain ⟨q1, q2⟩ := List.pairwise_cons.1 hp
    rcases List.mem_cons.1 ha with ha | ha <;> rcases List.mem_cons.1 hb with hb | hb
    · rw [ha, hb]
    · exact absurd (by rw [← ha]; exact hab) (q1 b hb)
    · exact absurd (by rw [← hb]; exact hab.symm) (q1 a ha)
    · exact ih q2 a ha b hb hab
/-- What Play holds in memory. -/
structure PlK (w w3 : World) (rb hb : Nat) (PS : List Pd) (u : Value) (W : World) : Prop where
  new : New w W
  sz : w3.heap.size ≤ W.heap.size
  rules : MapL Tryz.prog 5 W rb ruleL
  had : MapL Tryz.prog 9 W hb (PS.map pdK)
  own : OwnS (Wk.one pdV) 84 1 (fun k => w3.heap.size ≤ k) No W u PS
  dev : ∀ x ∈ PS, w3.heap.size ≤ x.1 ∧ x.1 < W.heap.size ∧ Bk W x.1 tDev (dvC x.2.1 x.2.2) ∧ u.ownBlock ≠ some x.1
  apart : PS.Pairwise fun a b => a.1 ≠ b.1
theorem PlK.chg {w w3 : World} {rb hb : Nat} {PS : List Pd} {u : Value} {W W' : World} {M : Nat → Prop} (h : PlK w w3 rb hb PS u W) (c : Chg M W W') (hw : ∀ k, k < w.heap.size → ¬ M k) (hr : ¬ M rb) (hh : ¬ M hb) (hu : ∀ k, u.ownBlock = some k → ¬ M k) (hd : ∀ x ∈ PS, ¬ M x.1) : PlK w w3 rb hb PS u W' := by
  have s := c.size
  have z := h.sz
  exact ⟨Chg.trans h.new c fun k hk e => hw k hk e, by omega, h.rules.chg c hr, h.had.chg c hh, h.own.chg (plain_one _) c fun k hk e => hu k hk e, fun x hx => by
    obtain ⟨h1, h2, h3, h4⟩ := h.dev x hx
    exact ⟨h1, by omega, h3.chg c (hd x hx), h4⟩, h.apart⟩
theorem PlK.nw {w w3 : World} {rb hb : Nat} {PS : List Pd} {u : Value} {W W' : World} (h : PlK w w3 rb hb PS u W) (n : New W W') : PlK w w3 rb hb PS u W' :=
  h.chg n (fun _ _ e => e) (fun e => e) (fun e => e) (fun _ _ e => e) (fun _ _ e => e)
def setPd (PS : List Pd) (nb : Nat) (p : List UInt8) (d : Dv) : List Pd := PS.map fun x => if x.1 = nb then (nb, p, d) else x
/-- A device is turned. -/
theorem PlK.set {w w3 : World} {rb hb : Nat} {PS : List Pd} {u : Value} {W W' : World} {nb : Nat} {p : List UInt8} {d d' : Dv} (h : PlK w w3 rb hb PS u W) (hin : (nb, p, d) ∈ PS) (c : Chg (fun k => k = nb) W W') (hbk : Bk W' nb tDev (dvC p d'))
    (hw : w.heap.size ≤ w3.heap.size) (hr : rb < w3.heap.size) (hh : hb < w3.heap.size) : PlK w w3 rb hb (setPd PS nb p d') u W' := by
  have s := c.size
  have z := h.sz
  obtain ⟨k1, k2, k3, k4⟩ := h.dev _ hin
  dsimp only at k1 k2 k3 k4
  have hx1 : ∀ x : Pd, (if x.1 = nb then ((nb, p, d') : Pd) else x).1 = x.1 := fun x => by split <;> simp_all
  have hmap : ∀ {β : Type} (f : Pd → β), (∀ x ∈ PS, f (if x.1 = nb then (nb, p, d') else x) = f x) → (setPd PS nb p d').map f = PS.map f := by
    intro β f hf
    unfold setPd
    rw [List.map_map]
    exact List.map_congr_left fun x hx => hf x hx
  have hK : (setPd PS nb p d').map pdK = PS.map pdK := hmap _ fun x hx => by
    by_cases e : x.1 = nb
    · have := uniq_of h.apart x hx _ hin e
      subst this
      simp
    · rw [if_neg e]
  have hV : (setPd PS nb p d').map pdV = PS.map pdV := hmap _ fun x hx => by show pT _ = pT _; rw [hx1]
  refine ⟨Chg.trans h.new c fun k hk e => by omega, by omega, h.rules.chg c (by omega), ?_, ?_, ?_, ?_⟩
  · rw [hK]; exact h.had.chg c (by omega)
  · have o := (h.own.chg (plain_one _) c fun k hk e => k4 (e ▸ hk)).to1
    refine OwnS.of1 (m := PS.length) (by unfold setPd; simp) ?_
    rw [hV]; exact o
  · intro x hx
    unfold setPd at hx
    obtain ⟨y, hy, rfl⟩ := List.mem_map.1 hx
    obtain ⟨j1, j2, j3, j4⟩ := h.dev y hy
    rw [hx1]
    refine ⟨j1, by omega, ?_, j4⟩
    by_cases e : y.1 = nb
    · rw [if_pos e, e]; exact hbk
    · rw [if_neg e]; exact j3.chg c e
  · unfold setPd
    rw [List.pairwise_map]
    refine h.apart.imp fun {a b} hab => ?_
    rw [hx1, hx1]; exact hab
theorem vs_inj {a b : List UInt8} (h : vs a = vs b) : a = b := by simpa using h
theorem play_err {l : List Ev} {i : Nat} {y : Ev} {S : DS} (h : playS ((l.take i).map pk) 0 [] = .inr S) (hy : l[i]? = some y) (hs : stepD S y.pa y.kd = none) : playM l = .inl i := by
  have hl := (List.getElem?_eq_some_iff.1 hy).1
  have h1 := play_snoc (x := pk y) h
  rw [show stepD S (pk y).1 (pk y).2 = none from hs] at h1
  dsimp only at h1
  have h2 : (l.take (i + 1)).map pk = (l.take i).map pk ++ [pk y] := by rw [take_snoc' hy, List.map_append]; rfl
  rw [← h2] at h1
  have h3 := play_more (r := (l.drop (i + 1)).map pk) h1
  rw [← List.map_append, List.take_append_drop] at h3
  unfold playM
  rw [h3]
  simp
  omega
theorem play_ok {l : List Ev} {i : Nat} {y : Ev} {S S' : DS} (h : playS ((l.take i).map pk) 0 [] = .inr S) (hy : l[i]? = some y) (hs : stepD S y.pa y.kd = some S') : playS ((l.take (i + 1)).map pk) 0 [] = .inr S' := by
  have h1 := play_snoc (x := pk y) h
  rw [show stepD S (pk y).1 (pk y).2 = some S' from hs] at h1
  rw [take_snoc' hy, List.map_append]
  exact h1
abbrev dvE : List UInt8 × Dv → List Value := fun x => dvC x.1 x.2
theorem goodDv : GoodR (Wk.flat dvE) 5 := good_flat _ (fun _ => rfl) fun x => dvC_one _ _
/-- What Play answers. -/
def PlayR (w : World) (l : List Ev) (r : Value) (w' : World) : Prop :=
  (∀ n, playM l = .inl n → r = .tuple #[.slice none 0 0, vi n, vi 300]) ∧ (∀ S, playM l = .inr S → ∃ v R, SortOf S R ∧ r = .tuple #[v, vi 0, vi 0] ∧ OwnS (Wk.flat dvE) tDev 5 (fun k => w.heap.size ≤ k) No w' v R) ∧ New w w'
theorem PlayR.bad {w w' : World} {l : List Ev} {i : Nat} (h : playM l = .inl i) (n : New w w') : PlayR w l (.tuple #[.slice none 0 0, vi i, vi 300]) w' :=
  ⟨fun m hm => by rw [h] at hm; cases hm; rfl, fun S hS => (by rw [h] at hS; cases hS), n⟩
set_option maxRecDepth 8000 in
set_option maxHeartbeats 4000000 in
theorem Play_spec {Pb : Nat → Prop} {w : World} {v : Value} {l : List Ev} (h : RdS rEv 6 Pb w v l) (hl : l.length ≤ 2000000) (hw : ∀ e ∈ l, e.kd < 256 ∧ e.pa.length ≤ 100000000) :
    Calls Tryz.prog 18 #[v] w (Ret fun r w' => PlayR w l r w') := by
  obtain ⟨a, cp, rfl, hc1, hc2⟩ := h.form
  simp only [maxLen] at hc2
  refine calls_of_Wc Tryz.func18 rfl Tryz.ntmps18 rfl ?_
  (repeat' (first | refine Wl.assignE (by conv => { lhs; whnf }) ?_ | refine Wl.nil ?_ | refine Qseq.normal ?_ | refine Wc.seq ?_ | refine Wc.region ?_))
  refine Wl.call rules_spec rfl ?_
  rintro _ w1 ⟨rb, rfl, m1, hrb, n1⟩
  (repeat' (first | refine Wl.assignE (by conv => { lhs; whnf }) ?_ | refine Wl.nil ?_ | refine Qseq.normal ?_ | refine Wc.seq ?_ | refine Wc.region ?_))
  refine Wl.makeMap (k := 9) fun w3 m3 n3 s3 => ?_
  have z1 := n1.size
  have z3 := n3.size
  have hr1 := m1.lt
  have k0 : PlK w w3 rb w1.heap.size [] (.slice none 0 0) w3 := ⟨n1.trans n3, Nat.le_refl _, m1.chg n3 (fun e => e), m3, OwnS.nil, fun x hx => by simp at hx, .nil⟩
  clear m1 m3 n1
  (repeat' (first | refine Wl.moveE (by conv => { lhs; whnf }) ?_ | refine Wl.assignE (by conv => { lhs; whnf }) ?_ | refine Wl.nil ?_ | refine Wl.lenS rfl ?_ | refine Qseq.normal ?_ | refine Wc.seq ?_ | refine Wc.region ?_ | refine Wc.block ?_))
  refine Wc.loop (σ := Nat × List Pd × Value) (fun s => [(0, .slice a l.length cp), (5, .map (some rb)), (6, .map (some w1.heap.size)), (7, s.2.2), (18, .slice a l.length cp), (19, vi l.length), (20, vi s.1)]) (fun s W => s.1 ≤ l.length ∧ s.2.1.length ≤ s.1 ∧ PlK w w3 rb w1.heap.size s.2.1 s.2.2 W ∧ playS ((l.take s.1).map pk) 0 [] = .inr (s.2.1.map (·.2))) (fun s => l.length - s.1) (0, [], .slice none 0 0) ⟨rfl, rfl, rfl, rfl, rfl, rfl, rfl, trivial⟩ ⟨Nat.zero_le _, Nat.le_refl _, k0, by simp [playS]⟩ ?_
  clear k0
  rintro ⟨i, PS, u⟩ G W ⟨hi, hfew, K, hplay⟩
  dsimp only at hi hfew K hplay
  simp only [upds]
  have zW := K.new.size
  have hks := Keys.play (S := []) .nil hplay
  (repeat' (first | refine Wl.moveE (by conv => { lhs; whnf }) ?_ | refine Wl.nil ?_ | refine Qseq.normal ?_ | refine Wc.seq ?_ | refine Wc.region ?_ | refine Wc.block ?_ | refine Wc.skip ?_ | refine Wc.exit ?_ | refine Qseq.exit ?_ | refine Qblk.hit ?_ | refine Qloop.exit ?_ | refine Wc.condT rfl ?_ | refine Wc.condF rfl ?_ | refine Wl.lss rfl rfl (fun _ => ?_) (fun _ => ?_)))
  · obtain ⟨y, hy⟩ := get_lt l (k := i) (by omega)
    obtain ⟨hyk, hyp⟩ := hw y (List.mem_of_getElem? hy)
    refine Wl.idxAddr (h.keep (stable_flat _) K.new.keep) rfl rfl (by omega) (by rw [Int.toNat_natCast]; exact hy) fun bb o cs hcl hR hat => ?_
    obtain rfl : cs = evC y := hR
    refine Wl.loadAt hat rfl rfl ?_
    refine Wl.alloc fun W2 b2 m2 s2 => ?_
    (repeat' (refine Wl.assignE (by conv => { lhs; whnf }) ?_))
    refine Wl.storeB (o := 0) (new := evC y) b2 rfl rfl rfl rfl (Nat.le_refl 6) (evC_one _) fun W3 b3 c3 s3' => ?_
    replace b3 : Bk W3 W.heap.size 27 (evC y) := b3
    have m03 : New W W3 := Chg.trans m2 c3 fun _ _ e => by omega
    have K3 := K.nw m03
    have e3 := b3.lt
    have zK := K.sz
    clear b2 m2 c3 s2 s3' hat
    have bad : ∀ W', New w W' → stepD (PS.map (·.2)) y.pa y.kd = none → PlayR w l (.tuple #[.slice none 0 0, vi i, vi 300]) W' := fun W' n hs => .bad (play_err hplay hy hs) n
    (repeat' (first | refine Wl.moveE (by conv => { lhs; whnf }) ?_ | refine Wl.nil ?_ | refine Qseq.normal ?_ | refine Wc.seq ?_ | refine Wc.region ?_ | refine Wl.fieldAddr rfl rfl ?_))
    refine Wl.load1 (u := .int .u8 y.kd) rfl (b3.cell (o := 3) rfl) ?_
    refine Wl.lookupOk (key := .int .u8 y.kd) kB K3.rules (keyB hyk) rfl rfl (fun r hr => ?_) (fun hno => ?_)
    rotate_left
    · have hk := rule_out hno
      (repeat' (first | refine Wl.moveE (by conv => { lhs; whnf }) ?_ | refine Wl.extract rfl rfl ?_))
      refine Wl.alloc fun W4 b4 n4 s4 => ?_
      refine Wl.storeB (o := 0) (new := [.nilFunc, .nilFunc]) b4 rfl rfl rfl rfl (by decide) (by simp [Value.oneCell']) fun W5 b5 c5 s5 => ?_
      have n35 : New W3 W5 := Chg.trans n4 c5 fun _ _ e => by omega
      (repeat' (first | refine Wl.moveE (by conv => { lhs; whnf }) ?_ | refine Wl.assignE (by conv => { lhs; whnf }) ?_ | refine Wl.nil ?_ | refine Wl.guardN rfl rfl ?_ | refine Wl.pickTE rfl (by conv => { lhs; whnf }) ?_ | refine Wl.notB rfl ?_ | refine Qseq.normal ?_ | refine Wc.seq ?_ | refine Wc.region ?_ | refine Wc.ret ?_ | refine Qseq.ret ?_ | refine Qblk.ret ?_ | refine Qloop.ret ?_ | refine Wc.condT rfl ?_))
      refine Qfn.ret3 rfl rfl rfl rfl ⟨_, rfl, bad _ (K3.new.trans n35) ?_⟩
      unfold stepD
      rw [if_neg (fun hc => hc.1 (nameK_nil.2 hk))]
    obtain ⟨hk1, hk9, rfl⟩ := rule_in hr
    (repeat' (first | refine Wl.moveE (by conv => { lhs; whnf }) ?_ | refine Wl.extract rfl rfl ?_))
    refine Wl.alloc fun W4 b4 n4 s4 => ?_
    refine Wl.storeB (o := 0) (new := [.func (.func (mayF y.kd)) #[] #[], .func (.func (doF y.kd)) #[] #[]]) b4 rfl rfl rfl rfl (Nat.le_refl 2) (by simp [Value.oneCell']) fun W5 b5 c5 s5 => ?_
    replace b5 : Bk W5 W3.heap.size 82 [.func (.func (mayF y.kd)) #[] #[], .func (.func (doF y.kd)) #[] #[]] := b5
    have n35 : New W3 W5 := Chg.trans n4 c5 fun _ _ e => by omega
    have b5' := b3.chg n35 (fun e => e)
    have K5 := K3.nw n35
    have e5 := b5.lt
    clear b4 n4 c5 s4 s5 hr
    (repeat' (first | refine Wl.moveE (by conv => { lhs; whnf }) ?_ | refine Wl.assignE (by conv => { lhs; whnf }) ?_ | refine Wl.nil ?_ | refine Wl.guardY rfl rfl ?_ | refine Wl.notB rfl ?_ | refine Qseq.normal ?_ | refine Wc.seq ?_ | refine Wc.region ?_ | refine Wl.fieldAddr rfl rfl ?_))
    refine Wl.load1 (u := vs y.pa) rfl (b5'.cell (o := 4) rfl) ?_
    (try refine Wl.guardY rfl rfl ?_)
    refine Wl.call (path_spec hyp) rfl ?_
    rintro _ W6 ⟨rfl, n6⟩
    cases hpa : pathM y.pa with
    | false =>
      (repeat' (first | refine Wl.moveE (by conv => { lhs; whnf }) ?_ | refine Wl.assignE (by conv => { lhs; whnf }) ?_ | refine Wl.nil ?_ | refine Wl.guardY rfl rfl ?_ | refine Wl.pickFE rfl (by conv => { lhs; whnf }) ?_ | refine Wl.notB rfl ?_ | refine Qseq.normal ?_ | refine Wc.seq ?_ | refine Wc.region ?_ | refine Wc.ret ?_ | refine Qseq.ret ?_ | refine Qblk.ret ?_ | refine Qloop.ret ?_ | refine Wc.condT rfl ?_))
      refine Qfn.ret3 rfl rfl rfl rfl ⟨_, rfl, bad _ (K3.new.trans (n35.trans n6)) ?_⟩
      unfold stepD
      rw [if_neg (fun hc => by rw [hpa] at hc; exact absurd hc.2.1 (by simp))]
    | true =>
    have b6 := b5.chg n6 (fun e => e)
    have b6' := b5'.chg n6 (fun e => e)
    have K6 := K5.nw n6
    have n36 := n35.trans n6
    have z36 := n36.size
    clear b5 b5' K5 n6 n35 b3
    have hkd : nameK y.kd ≠ [] := fun e => by rw [nameK_nil] at e; omega
    obtain ⟨q, hq⟩ := keyS y.pa (by simp only [maxLen]; omega)
    (repeat' (first | refine Wl.nil ?_ | refine Wl.guardY rfl rfl ?_ | refine Wl.pickFE rfl (by conv => { lhs; whnf }) ?_ | refine Wl.notB rfl ?_ | refine Qseq.normal ?_ | refine Wc.skip ?_ | refine Wc.condF rfl ?_))
    refine Wc.seq ?_
    (repeat' (first | refine Wl.moveE (by conv => { lhs; whnf }) ?_ | refine Wc.region ?_ | refine Wl.fieldAddr rfl rfl ?_))
    refine Wl.load1 (u := vs y.pa) rfl (b6'.cell (o := 4) rfl) ?_
    refine Wl.lookup (key := vs y.pa) kS K6.had hq rfl rfl fun r hr => ?_
    (repeat' (first | refine Wl.assignE (by conv => { lhs; whnf }) ?_ | refine Wl.nil ?_ | refine Qseq.normal ?_))
    have zK6 := K6.sz
    have hil := (List.getElem?_eq_some_iff.1 hy).1
    refine Wc.cutR (fun F W' => ∃ (PS1 : List Pd) (u1 : Value) (nb : Nat) (d : Dv), agrees F [(0, .slice a l.length cp), (5, .map (some rb)), (6, .map (some w1.heap.size)), (7, u1), (8, vi i), (10, pT W3.heap.size), (12, pT nb), (18, .slice a l.length cp), (19, vi l.length), (20, vi i)] ∧ PlK w w3 rb w1.heap.size PS1 u1 W' ∧ (nb, y.pa, d) ∈ PS1 ∧ d = (look (PS.map (·.2)) y.pa).getD dv0 ∧
      (∀ d', putD (PS.map (·.2)) y.pa d' = (setPd PS1 nb y.pa d').map (·.2)) ∧ PS1.length ≤ i + 1 ∧ Bk W' W3.heap.size 82 [.func (.func (mayF y.kd)) #[] #[], .func (.func (doF y.kd)) #[] #[]]) ?_ ?_
    · rcases hr with hr | ⟨rfl, hno⟩
      · obtain ⟨⟨nb, p', d⟩, hin, e⟩ := List.mem_map.1 hr
        obtain ⟨e1, rfl⟩ := Prod.mk.inj e
        obtain rfl := vs_inj e1
        have hin2 : (y.pa, d) ∈ PS.map (·.2) := List.mem_map.2 ⟨_, hin, rfl⟩
        have hlook := hks.look hin2
        (repeat' (first | refine Wl.moveE (by conv => { lhs; whnf }) ?_ | refine Wc.seq ?_ | refine Wc.region ?_))
        refine Wl.peqNil rfl rfl ?_
        (repeat' (first | refine Wl.nil ?_ | refine Qseq.normal ?_ | refine Wc.skip ?_ | refine Wc.condF rfl ?_))
        refine Qm.normal ⟨PS, u, nb, d, ⟨rfl, rfl, rfl, rfl, rfl, rfl, rfl, rfl, rfl, rfl, trivial⟩, K6, hin, by rw [hlook]; rfl, fun d' => ?_, by omega, b6⟩
        rw [putD_keys _ _ _ (by rw [hlook]; simp)]
        unfold setPd
        rw [List.map_map, List.map_map]
        refine List.map_congr_left fun x hx => ?_
        simp only [Function.comp]
        by_cases e : x.1 = nb
        · have := uniq_of K6.apart x hx _ hin e
          subst this
          simp
        · have hne : x.2.1 ≠ y.pa := fun e2 => by
            have hkp : PS.Pairwise fun a b : Pd => a.2.1 ≠ b.2.1 := by
              have := hks; unfold Keys at this; rwa [List.pairwise_map] at this
            exact e (congrArg (·.1) (uniq_of (f := fun x : Pd => x.2.1) hkp x hx _ hin e2))
          rw [if_neg e, if_neg hne]
      · have hnl : look (PS.map (·.2)) y.pa = none := look_none.2 fun e he e2 => by
          obtain ⟨x, hx, rfl⟩ := List.mem_map.1 he
          exact hno (pdK x) (List.mem_map.2 ⟨x, hx, rfl⟩) (by show vs x.2.1 = vs y.pa; rw [e2])
        (repeat' (first | refine Wl.moveE (by conv => { lhs; whnf }) ?_ | refine Wc.seq ?_ | refine Wc.region ?_))
        refine Wl.peqNil rfl rfl ?_
        (repeat' (first | refine Wl.nil ?_ | refine Qseq.normal ?_ | refine Wc.seq ?_ | refine Wc.region ?_ | refine Wc.condT rfl ?_ | refine Wl.fieldAddr rfl rfl ?_))
        refine Wl.load1 (u := vs y.pa) rfl (b6'.cell (o := 4) rfl) ?_
        refine Wl.buildG (u := dvV y.pa dv0) rfl (by kernel_rfl) ?_
        refine Wl.box rfl fun W7 b7 n7 s7 => ?_
        replace b7 : Bk W7 W6.heap.size tDev (dvC y.pa dv0) := b7
        have K7 := K6.nw n7
        have bx7 := b6'.chg n7 (fun e => e)
        have br7 := b6.chg n7 (fun e => e)
        have z7 := n7.size
        have e7 := b7.lt
        (repeat' (first | refine Wl.moveE (by conv => { lhs; whnf }) ?_ | refine Wl.assignE (by conv => { lhs; whnf }) ?_ | refine Wl.nil ?_ | refine Qseq.normal ?_ | refine Wc.seq ?_ | refine Wc.region ?_ | refine Wl.fieldAddr rfl rfl ?_))
        refine Wl.load1 (u := vs y.pa) rfl (bx7.cell (o := 4) rfl) ?_
        (repeat' (refine Wl.moveE (by conv => { lhs; whnf }) ?_))
        refine Wl.mapPut (key := vs y.pa) (u := pT W6.heap.size) kS K7.had hq hno rfl rfl rfl fun W8 m8 c8 s8 => ?_
        have b8 := b7.chg c8 (by omega)
        have br8 := br7.chg c8 (by omega)
        have o8 := K7.own.chg (plain_one _) c8 fun k hk e => by have := (K7.own.lt hk).1; omega
        (repeat' (first | refine Wl.moveE (by conv => { lhs; whnf }) ?_ | refine Wl.nil ?_ | refine Qseq.normal ?_ | refine Wc.region ?_))
        refine Wl.append1 (y := (W6.heap.size, y.pa, dv0)) goodPd o8 rfl rfl rfl rfl rfl (by omega) (by omega) (by simp only [maxLen]; omega) (by omega) rfl rfl fun u' W9 p o9 c9 lie => ?_
        (repeat' (first | refine Wl.assignE (by conv => { lhs; whnf }) ?_ | refine Wl.nil ?_))
        have hub : ∀ k, u.ownBlock = some k → w3.heap.size ≤ k ∧ k < W6.heap.size ∧ k < W.heap.size := fun k hk => ⟨(K6.own.lt hk).1, (K6.own.lt hk).2, (K.own.lt hk).2⟩
        have zW3 := m03.size
        have c79 : Chg (fun k => k = w1.heap.size ∨ u.ownBlock = some k) W7 W9 := Chg.trans (c8.mono fun _ _ e => .inl e) c9 fun _ _ e => .inr e
        have s79 := c79.size
        refine Qm.normal ⟨PS ++ [(W6.heap.size, y.pa, dv0)], u', W6.heap.size, dv0, ⟨rfl, rfl, rfl, rfl, rfl, rfl, rfl, rfl, rfl, rfl, trivial⟩, ⟨?_, by omega, ?_, ?_, ?_, ?_, ?_⟩, by simp, by rw [hnl]; rfl, fun d' => ?_, by simp; omega, ?_⟩
        · exact Chg.trans K7.new c79 fun k hk e => by
            rcases e with e | e
            · omega
            · have := hub k e; omega
        · exact K7.rules.chg c79 (by
            rintro (e | e)
            · omega
            · have := hub _ e; omega)
        · rw [List.map_append]
          exact m8.chg c9 fun e => by have := hub _ e; omega
        · exact o9.mono goodPd.mo (fun k _ e => by rcases e with e | e <;> omega) fun _ _ e => e
        · intro x hx
          have hu' : ∀ k, k < W8.heap.size → u.ownBlock ≠ some k → u'.ownBlock ≠ some k := fun k hk hne e => by
            rcases lie with lie | lie
            · rw [lie] at e; exact hne e
            · have := lie k e; omega
          rcases List.mem_append.1 hx with hx | hx
          · obtain ⟨j1, j2, j3, j4⟩ := K7.dev x hx
            have j2' := (K6.dev x hx).2.1
            refine ⟨j1, by omega, j3.chg c79 ?_, hu' _ (by omega) j4⟩
            rintro (e | e)
            · omega
            · exact j4 e
          · rw [List.mem_singleton.1 hx]
            refine ⟨by show w3.heap.size ≤ W6.heap.size; omega, by show W6.heap.size < _; omega, b8.chg c9 fun e => by have := (hub _ e).2.1; omega, hu' _ (by show W6.heap.size < _; omega) fun e => by have := (hub _ e).2.1; omega⟩
        · rw [List.pairwise_append]
          refine ⟨K6.apart, List.pairwise_singleton _ _, fun x hx z hz => ?_⟩
          rw [List.mem_singleton.1 hz]
          have := (K6.dev x hx).2.1
          show x.1 ≠ W6.heap.size
          omega
        · rw [putD_new _ _ _ hnl]
          unfold setPd
          rw [List.map_append, List.map_append]
          congr 1
          · rw [List.map_map]
            refine List.map_congr_left fun x hx => ?_
            have := (K6.dev x hx).2.1
            simp only [Function.comp]
            rw [if_neg (by omega)]
          · simp
        · exact br8.chg c9 fun e => by have := hub _ e; omega
    · rintro F7 W7 ⟨PS1, u1, nb, d, ag, K7, hin, hd, hput, hlen, b7⟩
      refine Wc.frame _ ag fun G4 => ?_
      simp only [upds]
      clear ag b6 b6' K6 K3 hr
      obtain ⟨j1, j2, j3, j4⟩ := K7.dev _ hin
      dsimp only at j1 j2 j3 j4
      (repeat' (refine Wc.seq ?_))
      refine Wc.regionT rfl (by kernel_rfl) (New W7) (Chg.drew _ _) ?_
      intro W8 n8
      (repeat' (refine Wt.quiet rfl (Wq.fieldAddr rfl rfl (Wq.nil ?_))))
      refine Wt.quiet rfl (Wq.load1 (u := .func (.func (mayF y.kd)) #[] #[]) rfl (fun w' n => (b7.chg n (fun e => e)).cell (o := 0) rfl) (Wq.nil ?_))
      (repeat' (first | refine Wt.quiet rfl (Wq.moveE (by conv => { lhs; whnf }) (Wq.nil ?_)) | refine Wt.quiet rfl (Wq.nilP rfl (Wq.nil ?_))))
      refine Wt.quiet rfl (Wq.loadAt (cs := dvC y.pa d) (fun w' n => (j3.chg n (fun e => e)).at) rfl rfl (Wq.nil ?_))
      haveI := may_call hk1 hk9
      haveI := do_call hk1 hk9
      refine Wt.chain rfl (Wl.callV rfl (may_spec hk1 hk9) rfl ?_)
      rintro _ W9 ⟨rfl, n9⟩
      replace n9 := n8.trans n9
      refine Wl.nil ⟨rfl, n9, ?_⟩
      have K9 := K7.nw n9
      cases hmay : mayM d y.kd with
      | false =>
        (repeat' (first | refine Wt.nil ?_ | refine Wt.quiet rfl (Wq.notB rfl (Wq.nil ?_))))
        (repeat' (first | refine Wl.moveE (by conv => { lhs; whnf }) ?_ | refine Wl.assignE (by conv => { lhs; whnf }) ?_ | refine Wl.nil ?_ | refine Qseq.normal ?_ | refine Wc.seq ?_ | refine Wc.region ?_ | refine Wc.ret ?_ | refine Qseq.ret ?_ | refine Qblk.ret ?_ | refine Qloop.ret ?_ | refine Wc.condT rfl ?_))
        refine Qfn.ret3 rfl rfl rfl rfl ⟨_, rfl, bad _ K9.new ?_⟩
        unfold stepD
        rw [if_neg (fun hc => by rw [← hd, hmay] at hc; exact absurd hc.2.2 (by simp))]
      | true =>
        have b9 := b7.chg n9 (fun e => e)
        have j9 := j3.chg n9 (fun e => e)
        (repeat' (first | refine Wt.nil ?_ | refine Wt.quiet rfl (Wq.notB rfl (Wq.nil ?_))))
        (repeat' (first | refine Qseq.normal ?_ | refine Wc.region ?_ | refine Wc.skip ?_ | refine Wc.condF rfl ?_ | refine Wl.fieldAddr rfl rfl ?_))
        refine Wl.load1 (u := .func (.func (doF y.kd)) #[] #[]) rfl (b9.cell (o := 1) rfl) ?_
        (repeat' (refine Wl.moveE (by conv => { lhs; whnf }) ?_))
        refine Wl.callV rfl (do_spec hk1 hk9 j9) rfl ?_
        rintro _ Wa ⟨ja, ca⟩
        (repeat' (first | refine Wl.moveE (by conv => { lhs; whnf }) ?_ | refine Wl.nil ?_ | refine Qseq.normal ?_ | refine Wc.region ?_ | refine Qblk.normal ?_ | refine Wl.add rfl rfl (by omega) (by omega) ?_))
        have hs : stepD (PS.map (·.2)) y.pa y.kd = some ((setPd PS1 nb y.pa (doM d y.kd)).map (·.2)) := by
          unfold stepD
          rw [← hd, if_pos ⟨hkd, hpa, hmay⟩, hput]
        exact Qloop.normal (i + 1, setPd PS1 nb y.pa (doM d y.kd), u1) ⟨rfl, rfl, rfl, rfl, rfl, rfl, rfl, trivial⟩ ⟨by dsimp only; omega, by dsimp only [setPd]; rw [List.length_map]; exact hlen, K9.set hin ca ja (by omega) (by omega) (by omega), play_ok hplay hy hs⟩ (by dsimp only; omega)
  · have e : i = l.length := by omega
    subst e
    rw [List.take_length] at hplay
    have hkp : PS.Pairwise fun a b : Pd => a.2.1 ≠ b.2.1 := by
      have := hks; unfold Keys at this; rwa [List.pairwise_map] at this
    refine Wl.call (sort_spec K.own (fun x hx => (K.dev x hx).2.2.1) hkp (fun x hx => (K.dev x hx).2.2.2) (by omega)) rfl ?_
    rintro _ W1 ⟨L, hperm, hsort, o1, c1⟩
    have hdev : ∀ x ∈ L, Bk W1 x.1 tDev (dvC x.2.1 x.2.2) := fun x hx => by
      have hx' := hperm.mem_iff.1 hx
      exact (K.dev x hx').2.2.1.chg c1 (K.dev x hx').2.2.2
    have hub : ∀ k, u.ownBlock = some k → w3.heap.size ≤ k := fun k hk => (K.own.lt hk).1
    have n01 : New w W1 := Chg.trans K.new c1 fun k hk e => by have := hub k e; omega
    have hS : SortOf (PS.map (·.2)) (L.map (·.2)) := ⟨hperm.map _, by rw [List.pairwise_map]; exact hsort⟩
    have hLl := hperm.length_eq
    obtain ⟨aL, cL, rfl, _, _⟩ := o1.form
    (repeat' (first | refine Wl.moveE (by conv => { lhs; whnf }) ?_ | refine Wl.assignE (by conv => { lhs; whnf }) ?_ | refine Wl.nil ?_ | refine Wl.lenS rfl ?_ | refine Qseq.normal ?_ | refine Wc.seq ?_ | refine Wc.region ?_ | refine Wc.block ?_))
    refine Wc.loop (σ := Nat × Value) (fun s => [(13, s.2), (74, .slice aL L.length cL), (75, vi L.length), (76, vi s.1)]) (fun s W' => s.1 ≤ L.length ∧ New W1 W' ∧ OwnS (Wk.flat dvE) tDev 5 (fun k => W1.heap.size ≤ k) No W' s.2 ((L.take s.1).map (·.2))) (fun s => L.length - s.1) (0, .slice none 0 0) ⟨rfl, rfl, rfl, rfl, trivial⟩ ⟨Nat.zero_le _, Chg.refl _ _, OwnS.nil⟩ ?_
    rintro ⟨j, g⟩ G2 W2 ⟨hj, n2, og⟩
    dsimp only at hj og
    simp only [upds]
    have z01 := n01.size
    have z2 := n2.size
    have o2 := o1.new (plain_one _) n2
    (repeat' (first | refine Wl.moveE (by conv => { lhs; whnf }) ?_ | refine Wl.assignE (by conv => { lhs; whnf }) ?_ | refine Wl.nil ?_ | refine Qseq.normal ?_ | refine Wc.seq ?_ | refine Wc.region ?_ | refine Wc.block ?_ | refine Wc.skip ?_ | refine Wc.exit ?_ | refine Wc.ret ?_ | refine Qseq.exit ?_ | refine Qblk.hit ?_ | refine Qloop.exit ?_ | refine Wc.condT rfl ?_ | refine Wc.condF rfl ?_ | refine Wl.lss rfl rfl (fun _ => ?_) (fun _ => ?_)))
    · obtain ⟨x, hx⟩ := get_lt L (k := j) (by omega)
      refine Wl.idxAddrV (o2.rd goodPd.mo) rfl rfl (by omega) (by rw [Int.toNat_natCast]; exact hx) fun bb o hc => ?_
      refine Wl.load1 rfl hc ?_
      (repeat' (first | refine Wl.moveE (by conv => { lhs; whnf }) ?_ | refine Wl.assignE (by conv => { lhs; whnf }) ?_ | refine Wl.nil ?_ | refine Qseq.normal ?_ | refine Wc.region ?_ | refine Wl.nilP rfl ?_))
      refine Wl.loadB ((hdev x (List.mem_of_getElem? hx)).chg n2 (fun e => e)) rfl rfl ?_
      refine Wl.append1 (y := x.2) goodDv og rfl rfl rfl rfl rfl (by omega) (by omega) (by simp only [maxLen, List.length_map, List.length_take]; omega) (by simp only [List.length_map, List.length_take]; omega) rfl rfl fun g' W3 p og3 c3 _ => ?_
      have e : (L.take j).map (·.2) ++ [x.2] = (L.take (j + 1)).map (·.2) := by rw [take_snoc' hx, List.map_append]; rfl
      rw [e] at og3
      (repeat' (first | refine Wl.moveE (by conv => { lhs; whnf }) ?_ | refine Wl.assignE (by conv => { lhs; whnf }) ?_ | refine Wl.nil ?_ | refine Qseq.normal ?_ | refine Wc.region ?_ | refine Qblk.normal ?_ | refine Wl.add rfl rfl (by omega) (by omega) ?_))
      refine Qloop.normal (j + 1, g') ⟨rfl, rfl, rfl, rfl, trivial⟩ ⟨by dsimp only; omega, Chg.trans n2 c3 fun k hk e => by have := (og.lt e).1; omega, og3.mono goodDv.mo (fun k _ hk => by rcases hk with hk | hk <;> omega) fun _ _ e => e⟩ (by dsimp only; omega)
    · have e : j = L.length := by omega
      subst e
      rw [List.take_length] at og
      exact Qfn.ret3 rfl rfl rfl rfl ⟨_, rfl, fun m hm => (by unfold playM at hm; rw [hplay] at hm; cases hm), fun S hS' => (by unfold playM at hS'; rw [hplay] at hS'; cases hS'; exact ⟨_, _, hS, rfl, og.mono goodDv.mo (fun k _ e => by omega) fun _ _ e => e⟩), n01.trans n2⟩
end Go.Proofs.YtjaendlcijmifaaGreatDoor

namespace Go.Proofs.YtjaendlcijmifaaGreatDoor
open Go Wk
open Go.RowKit (Below)
attribute [local irreducible] Go.Calls

abbrev tDr : TypeId := 88
set_option maxHeartbeats 1000000 in
theorem does1 {w : World} {p : List UInt8} {d : Dv} : Calls Tryz.prog 35 #[dvV p d, .int .u8 (1 : Nat)] w (Ret fun r w' => r = .tuple #[dvV p (doM d 1), .bool (mayM d 1)] ∧ New w w') := by
  obtain ⟨dd, hdd⟩ : ∃ dd, dd = doM d 1 := ⟨_, rfl⟩
  obtain ⟨mm, hmm⟩ : ∃ mm, mm = mayM d 1 := ⟨_, rfl⟩
  rw [← hdd, ← hmm]
  refine calls_of_Wc Tryz.func35 rfl Tryz.ntmps35 rfl ?_
  (repeat' (first | refine Wc.seq ?_ | refine Wc.region ?_))
  refine Wl.box rfl fun w1 b1 n1 s1 => ?_
  replace b1 : Bk w1 w.heap.size tDr (dvC p d) := b1
  skip
  refine Wl.alloc fun w2 b2 n2 s2 => ?_
  replace b2 : Bk w2 w1.heap.size tDr (dvC [] dv0) := b2
  have bx := b1.chg n2 (fun e => e)
  have e1 := b1.lt
  rcases d with ⟨bo, on, sl, go⟩
  cases go <;> cases bo <;> (
  (repeat' (first | refine Wl.moveE (by conv => { lhs; whnf }) ?_ | refine Wl.assignE (by conv => { lhs; whnf }) ?_ | refine Wl.nil ?_ | refine Qseq.normal ?_ | refine Wc.seq ?_ | refine Wc.region ?_ | refine Wc.block ?_ | refine Wc.condT rfl ?_ | refine Wl.fieldAddr rfl rfl ?_ | (refine Wl.eql rfl rfl (fun _ => ?_) (fun _ => ?_) <;> (first | (exfalso; omega) | skip))))
  (repeat' (refine Wl.load1 rfl (bx.cell rfl) ?_; (repeat' (first | refine Wl.moveE (by conv => { lhs; whnf }) ?_ | refine Wl.assignE (by conv => { lhs; whnf }) ?_ | refine Wl.nil ?_ | refine Wl.guardY rfl rfl ?_ | refine Wl.guardN rfl rfl ?_ | refine Wl.pickTE rfl (by conv => { lhs; whnf }) ?_ | refine Wl.pickFE rfl (by conv => { lhs; whnf }) ?_ | refine Wl.notB rfl ?_ | refine Qseq.normal ?_ | refine Wc.region ?_ | refine Wl.fieldAddr rfl rfl ?_))))
  refine Wl.store1 bx rfl (by simp [dvC]) rfl rfl fun w3 b3 c3 => ?_
  replace b3 : Bk w3 w.heap.size tDr (dvC p dd) := by subst hdd; exact b3
  (repeat' (first | refine Wl.nil ?_ | refine Qseq.normal ?_ | refine Wc.seq ?_ | refine Wc.region ?_ | refine Qblk.normal ?_))
  refine Wl.loadB b3 rfl rfl ?_
  (repeat' (refine Wl.moveE (by conv => { lhs; whnf }) ?_))
  refine Wl.storeB (o := 0) (new := dvC p dd) (b2.chg c3 (by omega)) rfl rfl rfl rfl (Nat.le_refl 5) (dvC_one _ _) fun w4 b4 c4 s4 => ?_
  (repeat' (first | refine Wl.assignE (by conv => { lhs; whnf }) ?_ | refine Wl.nil ?_ | refine Qseq.normal ?_ | refine Wc.ret ?_))
  exact Qfn.retR (results2 rfl (rvOf_agg (e := tDr) rfl rfl b4 rfl) (rvOf_tmp rfl)) ⟨_, rfl, by rw [hmm]; rfl, Chg.trans (Chg.trans (n1.trans n2) c3 fun k hk e => by omega) c4 fun k hk e => by omega⟩)
set_option maxHeartbeats 1000000 in
theorem does2 {w : World} {p : List UInt8} {d : Dv} : Calls Tryz.prog 35 #[dvV p d, .int .u8 (2 : Nat)] w (Ret fun r w' => r = .tuple #[dvV p (doM d 2), .bool (mayM d 2)] ∧ New w w') := by
  obtain ⟨dd, hdd⟩ : ∃ dd, dd = doM d 2 := ⟨_, rfl⟩
  obtain ⟨mm, hmm⟩ : ∃ mm, mm = mayM d 2 := ⟨_, rfl⟩
  rw [← hdd, ← hmm]
  refine calls_of_Wc Tryz.func35 rfl Tryz.ntmps35 rfl ?_
  (repeat' (first | refine Wc.seq ?_ | refine Wc.region ?_))
  refine Wl.box rfl fun w1 b1 n1 s1 => ?_
  replace b1 : Bk w1 w.heap.size tDr (dvC p d) := b1
  skip
  refine Wl.alloc fun w2 b2 n2 s2 => ?_
  replace b2 : Bk w2 w1.heap.size tDr (dvC [] dv0) := b2
  have bx := b1.chg n2 (fun e => e)
  have e1 := b1.lt
  rcases d with ⟨bo, on, sl, go⟩
  cases bo <;> cases on <;> cases sl <;> (
  (repeat' (first | refine Wl.moveE (by conv => { lhs; whnf }) ?_ | refine Wl.assignE (by conv => { lhs; whnf }) ?_ | refine Wl.nil ?_ | refine Qseq.normal ?_ | refine Wc.seq ?_ | refine Wc.region ?_ | refine Wc.block ?_ | refine Wc.condT rfl ?_ | refine Wc.condF rfl ?_ | refine Wl.fieldAddr rfl rfl ?_ | (refine Wl.eql rfl rfl (fun _ => ?_) (fun _ => ?_) <;> (first | (exfalso; omega) | skip))))
  (repeat' (refine Wl.load1 rfl (bx.cell rfl) ?_; (repeat' (first | refine Wl.moveE (by conv => { lhs; whnf }) ?_ | refine Wl.assignE (by conv => { lhs; whnf }) ?_ | refine Wl.nil ?_ | refine Wl.guardY rfl rfl ?_ | refine Wl.guardN rfl rfl ?_ | refine Wl.pickTE rfl (by conv => { lhs; whnf }) ?_ | refine Wl.pickFE rfl (by conv => { lhs; whnf }) ?_ | refine Wl.notB rfl ?_ | refine Qseq.normal ?_ | refine Wc.region ?_ | refine Wl.fieldAddr rfl rfl ?_))))
  refine Wl.store1 bx rfl (by simp [dvC]) rfl rfl fun w3 b3 c3 => ?_
  replace b3 : Bk w3 w.heap.size tDr (dvC p dd) := by subst hdd; exact b3
  (repeat' (first | refine Wl.nil ?_ | refine Qseq.normal ?_ | refine Wc.seq ?_ | refine Wc.region ?_ | refine Qblk.normal ?_))
  refine Wl.loadB b3 rfl rfl ?_
  (repeat' (refine Wl.moveE (by conv => { lhs; whnf }) ?_))
  refine Wl.storeB (o := 0) (new := dvC p dd) (b2.chg c3 (by omega)) rfl rfl rfl rfl (Nat.le_refl 5) (dvC_one _ _) fun w4 b4 c4 s4 => ?_
  (repeat' (first | refine Wl.assignE (by conv => { lhs; whnf }) ?_ | refine Wl.nil ?_ | refine Qseq.normal ?_ | refine Wc.ret ?_))
  exact Qfn.retR (results2 rfl (rvOf_agg (e := tDr) rfl rfl b4 rfl) (rvOf_tmp rfl)) ⟨_, rfl, by rw [hmm]; rfl, Chg.trans (Chg.trans (n1.trans n2) c3 fun k hk e => by omega) c4 fun k hk e => by omega⟩)
set_option maxHeartbeats 1000000 in
theorem does3 {w : World} {p : List UInt8} {d : Dv} : Calls Tryz.prog 35 #[dvV p d, .int .u8 (3 : Nat)] w (Ret fun r w' => r = .tuple #[dvV p (doM d 3), .bool (mayM d 3)] ∧ New w w') := by
  obtain ⟨dd, hdd⟩ : ∃ dd, dd = doM d 3 := ⟨_, rfl⟩
  obtain ⟨mm, hmm⟩ : ∃ mm, mm = mayM d 3 := ⟨_, rfl⟩
  rw [← hdd, ← hmm]
  refine calls_of_Wc Tryz.func35 rfl Tryz.ntmps35 rfl ?_
  (repeat' (first | refine Wc.seq ?_ | refine Wc.region ?_))
  refine Wl.box rfl fun w1 b1 n1 s1 => ?_
  replace b1 : Bk w1 w.heap.size tDr (dvC p d) := b1
  skip
  refine Wl.alloc fun w2 b2 n2 s2 => ?_
  replace b2 : Bk w2 w1.heap.size tDr (dvC [] dv0) := b2
  have bx := b1.chg n2 (fun e => e)
  have e1 := b1.lt
  rcases d with ⟨bo, on, sl, go⟩
  cases on <;> cases go <;> (
  (repeat' (first | refine Wl.moveE (by conv => { lhs; whnf }) ?_ | refine Wl.assignE (by conv => { lhs; whnf }) ?_ | refine Wl.nil ?_ | refine Qseq.normal ?_ | refine Wc.seq ?_ | refine Wc.region ?_ | refine Wc.block ?_ | refine Wc.condT rfl ?_ | refine Wc.condF rfl ?_ | refine Wl.fieldAddr rfl rfl ?_ | (refine Wl.eql rfl rfl (fun _ => ?_) (fun _ => ?_) <;> (first | (exfalso; omega) | skip))))
  (repeat' (refine Wl.load1 rfl (bx.cell rfl) ?_; (repeat' (first | refine Wl.moveE (by conv => { lhs; whnf }) ?_ | refine Wl.assignE (by conv => { lhs; whnf }) ?_ | refine Wl.nil ?_ | refine Wl.guardY rfl rfl ?_ | refine Wl.guardN rfl rfl ?_ | refine Wl.pickTE rfl (by conv => { lhs; whnf }) ?_ | refine Wl.pickFE rfl (by conv => { lhs; whnf }) ?_ | refine Wl.notB rfl ?_ | refine Qseq.normal ?_ | refine Wc.region ?_ | refine Wl.fieldAddr rfl rfl ?_))))
  refine Wl.store1 bx rfl (by simp [dvC]) rfl rfl fun w3 b3 c3 => ?_
  replace b3 : Bk w3 w.heap.size tDr (dvC p dd) := by subst hdd; exact b3
  (repeat' (first | refine Wl.nil ?_ | refine Qseq.normal ?_ | refine Wc.seq ?_ | refine Wc.region ?_ | refine Qblk.normal ?_))
  refine Wl.loadB b3 rfl rfl ?_
  (repeat' (refine Wl.moveE (by conv => { lhs; whnf }) ?_))
  refine Wl.storeB (o := 0) (new := dvC p dd) (b2.chg c3 (by omega)) rfl rfl rfl rfl (Nat.le_refl 5) (dvC_one _ _) fun w4 b4 c4 s4 => ?_
  (repeat' (first | refine Wl.assignE (by conv => { lhs; whnf }) ?_ | refine Wl.nil ?_ | refine Qseq.normal ?_ | refine Wc.ret ?_))
  exact Qfn.retR (results2 rfl (rvOf_agg (e := tDr) rfl rfl b4 rfl) (rvOf_tmp rfl)) ⟨_, rfl, by rw [hmm]; rfl, Chg.trans (Chg.trans (n1.trans n2) c3 fun k hk e => by omega) c4 fun k hk e => by omega⟩)
set_option maxHeartbeats 1000000 in
theorem does4 {w : World} {p : List UInt8} {d : Dv} : Calls Tryz.prog 35 #[dvV p d, .int .u8 (4 : Nat)] w (Ret fun r w' => r = .tuple #[dvV p (doM d 4), .bool (mayM d 4)] ∧ New w w') := by
  obtain ⟨dd, hdd⟩ : ∃ dd, dd = doM d 4 := ⟨_, rfl⟩
  obtain ⟨mm, hmm⟩ : ∃ mm, mm = mayM d 4 := ⟨_, rfl⟩
  rw [← hdd, ← hmm]
  refine calls_of_Wc Tryz.func35 rfl Tryz.ntmps35 rfl ?_
  (repeat' (first | refine Wc.seq ?_ | refine Wc.region ?_))
  refine Wl.box rfl fun w1 b1 n1 s1 => ?_
  replace b1 : Bk w1 w.heap.size tDr (dvC p d) := b1
  skip
  refine Wl.alloc fun w2 b2 n2 s2 => ?_
  replace b2 : Bk w2 w1.heap.size tDr (dvC [] dv0) := b2
  have bx := b1.chg n2 (fun e => e)
  have e1 := b1.lt
  rcases d with ⟨bo, on, sl, go⟩
  (
  (repeat' (first | refine Wl.moveE (by conv => { lhs; whnf }) ?_ | refine Wl.assignE (by conv => { lhs; whnf }) ?_ | refine Wl.nil ?_ | refine Qseq.normal ?_ | refine Wc.seq ?_ | refine Wc.region ?_ | refine Wc.block ?_ | refine Wc.condT rfl ?_ | refine Wc.condF rfl ?_ | refine Wl.fieldAddr rfl rfl ?_ | (refine Wl.eql rfl rfl (fun _ => ?_) (fun _ => ?_) <;> (first | (exfalso; omega) | skip))))
  (repeat' (refine Wl.load1 rfl (bx.cell rfl) ?_; (repeat' (first | refine Wl.assignE (by conv => { lhs; whnf }) ?_ | refine Wl.nil ?_ | refine Qseq.normal ?_ | refine Wc.region ?_ | refine Wl.fieldAddr rfl rfl ?_))))
  refine Wl.store1 bx rfl (by simp [dvC]) rfl rfl fun w3 b3 c3 => ?_
  replace b3 : Bk w3 w.heap.size tDr (dvC p dd) := by subst hdd; exact b3
  (repeat' (first | refine Wl.nil ?_ | refine Qseq.normal ?_ | refine Wc.seq ?_ | refine Wc.region ?_ | refine Qblk.normal ?_))
  refine Wl.loadB b3 rfl rfl ?_
  (repeat' (refine Wl.moveE (by conv => { lhs; whnf }) ?_))
  refine Wl.storeB (o := 0) (new := dvC p dd) (b2.chg c3 (by omega)) rfl rfl rfl rfl (Nat.le_refl 5) (dvC_one _ _) fun w4 b4 c4 s4 => ?_
  (repeat' (first | refine Wl.assignE (by conv => { lhs; whnf }) ?_ | refine Wl.nil ?_ | refine Qseq.normal ?_ | refine Wc.ret ?_))
  exact Qfn.retR (results2 rfl (rvOf_agg (e := tDr) rfl rfl b4 rfl) (rvOf_tmp rfl)) ⟨_, rfl, by rw [hmm]; rfl, Chg.trans (Chg.trans (n1.trans n2) c3 fun k hk e => by omega) c4 fun k hk e => by omega⟩)
set_option maxHeartbeats 1000000 in
theorem does5 {w : World} {p : List UInt8} {d : Dv} : Calls Tryz.prog 35 #[dvV p d, .int .u8 (5 : Nat)] w (Ret fun r w' => r = .tuple #[dvV p (doM d 5), .bool (mayM d 5)] ∧ New w w') := by
  obtain ⟨dd, hdd⟩ : ∃ dd, dd = doM d 5 := ⟨_, rfl⟩
  obtain ⟨mm, hmm⟩ : ∃ mm, mm = mayM d 5 := ⟨_, rfl⟩
  rw [← hdd, ← hmm]
  refine calls_of_Wc Tryz.func35 rfl Tryz.ntmps35 rfl ?_
  (repeat' (first | refine Wc.seq ?_ | refine Wc.region ?_))
  refine Wl.box rfl fun w1 b1 n1 s1 => ?_
  replace b1 : Bk w1 w.heap.size tDr (dvC p d) := b1
  skip
  refine Wl.alloc fun w2 b2 n2 s2 => ?_
  replace b2 : Bk w2 w1.heap.size tDr (dvC [] dv0) := b2
  have bx := b1.chg n2 (fun e => e)
  have e1 := b1.lt
  rcases d with ⟨bo, on, sl, go⟩
  cases bo <;> cases sl <;> (
  (repeat' (first | refine Wl.moveE (by conv => { lhs; whnf }) ?_ | refine Wl.assignE (by conv => { lhs; whnf }) ?_ | refine Wl.nil ?_ | refine Qseq.normal ?_ | refine Wc.seq ?_ | refine Wc.region ?_ | refine Wc.block ?_ | refine Wc.condT rfl ?_ | refine Wc.condF rfl ?_ | refine Wl.fieldAddr rfl rfl ?_ | (refine Wl.eql rfl rfl (fun _ => ?_) (fun _ => ?_) <;> (first | (exfalso; omega) | skip))))
  (repeat' (refine Wl.load1 rfl (bx.cell rfl) ?_; (repeat' (first | refine Wl.moveE (by conv => { lhs; whnf }) ?_ | refine Wl.assignE (by conv => { lhs; whnf }) ?_ | refine Wl.nil ?_ | refine Wl.guardY rfl rfl ?_ | refine Wl.guardN rfl rfl ?_ | refine Wl.pickTE rfl (by conv => { lhs; whnf }) ?_ | refine Wl.pickFE rfl (by conv => { lhs; whnf }) ?_ | refine Wl.notB rfl ?_ | refine Qseq.normal ?_ | refine Wc.region ?_ | refine Wl.fieldAddr rfl rfl ?_))))
  refine Wl.store1 bx rfl (by simp [dvC]) rfl rfl fun w3 b3 c3 => ?_
  replace b3 : Bk w3 w.heap.size tDr (dvC p dd) := by subst hdd; exact b3
  (repeat' (first | refine Wl.nil ?_ | refine Qseq.normal ?_ | refine Wc.seq ?_ | refine Wc.region ?_ | refine Qblk.normal ?_))
  refine Wl.loadB b3 rfl rfl ?_
  (repeat' (refine Wl.moveE (by conv => { lhs; whnf }) ?_))
  refine Wl.storeB (o := 0) (new := dvC p dd) (b2.chg c3 (by omega)) rfl rfl rfl rfl (Nat.le_refl 5) (dvC_one _ _) fun w4 b4 c4 s4 => ?_
  (repeat' (first | refine Wl.assignE (by conv => { lhs; whnf }) ?_ | refine Wl.nil ?_ | refine Qseq.normal ?_ | refine Wc.ret ?_))
  exact Qfn.retR (results2 rfl (rvOf_agg (e := tDr) rfl rfl b4 rfl) (rvOf_tmp rfl)) ⟨_, rfl, by rw [hmm]; rfl, Chg.trans (Chg.trans (n1.trans n2) c3 fun k hk e => by omega) c4 fun k hk e => by omega⟩)
set_option maxHeartbeats 1000000 in
theorem does6 {w : World} {p : List UInt8} {d : Dv} : Calls Tryz.prog 35 #[dvV p d, .int .u8 (6 : Nat)] w (Ret fun r w' => r = .tuple #[dvV p (doM d 6), .bool (mayM d 6)] ∧ New w w') := by
  obtain ⟨dd, hdd⟩ : ∃ dd, dd = doM d 6 := ⟨_, rfl⟩
  obtain ⟨mm, hmm⟩ : ∃ mm, mm = mayM d 6 := ⟨_, rfl⟩
  rw [← hdd, ← hmm]
  refine calls_of_Wc Tryz.func35 rfl Tryz.ntmps35 rfl ?_
  (repeat' (first | refine Wc.seq ?_ | refine Wc.region ?_))
  refine Wl.box rfl fun w1 b1 n1 s1 => ?_
  replace b1 : Bk w1 w.heap.size tDr (dvC p d) := b1
  skip
  refine Wl.alloc fun w2 b2 n2 s2 => ?_
  replace b2 : Bk w2 w1.heap.size tDr (dvC [] dv0) := b2
  have bx := b1.chg n2 (fun e => e)
  have e1 := b1.lt
  rcases d with ⟨bo, on, sl, go⟩
  (
  (repeat' (first | refine Wl.moveE (by conv => { lhs; whnf }) ?_ | refine Wl.assignE (by conv => { lhs; whnf }) ?_ | refine Wl.nil ?_ | refine Qseq.normal ?_ | refine Wc.seq ?_ | refine Wc.region ?_ | refine Wc.block ?_ | refine Wc.condT rfl ?_ | refine Wc.condF rfl ?_ | refine Wl.fieldAddr rfl rfl ?_ | (refine Wl.eql rfl rfl (fun _ => ?_) (fun _ => ?_) <;> (first | (exfalso; omega) | skip))))
  (repeat' (refine Wl.load1 rfl (bx.cell rfl) ?_; (repeat' (first | refine Wl.assignE (by conv => { lhs; whnf }) ?_ | refine Wl.nil ?_ | refine Qseq.normal ?_ | refine Wc.region ?_ | refine Wl.fieldAddr rfl rfl ?_))))
  refine Wl.store1 bx rfl (by simp [dvC]) rfl rfl fun w3 b3 c3 => ?_
  replace b3 : Bk w3 w.heap.size tDr (dvC p dd) := by subst hdd; exact b3
  (repeat' (first | refine Wl.nil ?_ | refine Qseq.normal ?_ | refine Wc.seq ?_ | refine Wc.region ?_ | refine Qblk.normal ?_))
  refine Wl.loadB b3 rfl rfl ?_
  (repeat' (refine Wl.moveE (by conv => { lhs; whnf }) ?_))
  refine Wl.storeB (o := 0) (new := dvC p dd) (b2.chg c3 (by omega)) rfl rfl rfl rfl (Nat.le_refl 5) (dvC_one _ _) fun w4 b4 c4 s4 => ?_
  (repeat' (first | refine Wl.assignE (by conv => { lhs; whnf }) ?_ | refine Wl.nil ?_ | refine Qseq.normal ?_ | refine Wc.ret ?_))
  exact Qfn.retR (results2 rfl (rvOf_agg (e := tDr) rfl rfl b4 rfl) (rvOf_tmp rfl)) ⟨_, rfl, by rw [hmm]; rfl, Chg.trans (Chg.trans (n1.trans n2) c3 fun k hk e => by omega) c4 fun k hk e => by omega⟩)
set_option maxHeartbeats 1000000 in
theorem does7 {w : World} {p : List UInt8} {d : Dv} : Calls Tryz.prog 35 #[dvV p d, .int .u8 (7 : Nat)] w (Ret fun r w' => r = .tuple #[dvV p (doM d 7), .bool (mayM d 7)] ∧ New w w') := by
  obtain ⟨dd, hdd⟩ : ∃ dd, dd = doM d 7 := ⟨_, rfl⟩
  obtain ⟨mm, hmm⟩ : ∃ mm, mm = mayM d 7 := ⟨_, rfl⟩
  rw [← hdd, ← hmm]
  refine calls_of_Wc Tryz.func35 rfl Tryz.ntmps35 rfl ?_
  (repeat' (first | refine Wc.seq ?_ | refine Wc.region ?_))
  refine Wl.box rfl fun w1 b1 n1 s1 => ?_
  replace b1 : Bk w1 w.heap.size tDr (dvC p d) := b1
  skip
  refine Wl.alloc fun w2 b2 n2 s2 => ?_
  replace b2 : Bk w2 w1.heap.size tDr (dvC [] dv0) := b2
  have bx := b1.chg n2 (fun e => e)
  have e1 := b1.lt
  rcases d with ⟨bo, on, sl, go⟩
  (
  (repeat' (first | refine Wl.moveE (by conv => { lhs; whnf }) ?_ | refine Wl.assignE (by conv => { lhs; whnf }) ?_ | refine Wl.nil ?_ | refine Qseq.normal ?_ | refine Wc.seq ?_ | refine Wc.region ?_ | refine Wc.block ?_ | refine Wc.condT rfl ?_ | refine Wc.condF rfl ?_ | refine Wl.fieldAddr rfl rfl ?_ | (refine Wl.eql rfl rfl (fun _ => ?_) (fun _ => ?_) <;> (first | (exfalso; omega) | skip))))
  (repeat' (refine Wl.load1 rfl (bx.cell rfl) ?_; (repeat' (first | refine Wl.assignE (by conv => { lhs; whnf }) ?_ | refine Wl.nil ?_ | refine Qseq.normal ?_ | refine Wc.region ?_ | refine Wl.fieldAddr rfl rfl ?_))))
  refine Wl.store1 bx rfl (by simp [dvC]) rfl rfl fun w3 b3 c3 => ?_
  replace b3 : Bk w3 w.heap.size tDr (dvC p dd) := by subst hdd; exact b3
  (repeat' (first | refine Wl.nil ?_ | refine Qseq.normal ?_ | refine Wc.seq ?_ | refine Wc.region ?_ | refine Qblk.normal ?_))
  refine Wl.loadB b3 rfl rfl ?_
  (repeat' (refine Wl.moveE (by conv => { lhs; whnf }) ?_))
  refine Wl.storeB (o := 0) (new := dvC p dd) (b2.chg c3 (by omega)) rfl rfl rfl rfl (Nat.le_refl 5) (dvC_one _ _) fun w4 b4 c4 s4 => ?_
  (repeat' (first | refine Wl.assignE (by conv => { lhs; whnf }) ?_ | refine Wl.nil ?_ | refine Qseq.normal ?_ | refine Wc.ret ?_))
  exact Qfn.retR (results2 rfl (rvOf_agg (e := tDr) rfl rfl b4 rfl) (rvOf_tmp rfl)) ⟨_, rfl, by rw [hmm]; rfl, Chg.trans (Chg.trans (n1.trans n2) c3 fun k hk e => by omega) c4 fun k hk e => by omega⟩)
set_option maxHeartbeats 1000000 in
theorem does8 {w : World} {p : List UInt8} {d : Dv} : Calls Tryz.prog 35 #[dvV p d, .int .u8 (8 : Nat)] w (Ret fun r w' => r = .tuple #[dvV p (doM d 8), .bool (mayM d 8)] ∧ New w w') := by
  obtain ⟨dd, hdd⟩ : ∃ dd, dd = doM d 8 := ⟨_, rfl⟩
  obtain ⟨mm, hmm⟩ : ∃ mm, mm = mayM d 8 := ⟨_, rfl⟩
  rw [← hdd, ← hmm]
  refine calls_of_Wc Tryz.func35 rfl Tryz.ntmps35 rfl ?_
  (repeat' (first | refine Wc.seq ?_ | refine Wc.region ?_))
  refine Wl.box rfl fun w1 b1 n1 s1 => ?_
  replace b1 : Bk w1 w.heap.size tDr (dvC p d) := b1
  skip
  refine Wl.alloc fun w2 b2 n2 s2 => ?_
  replace b2 : Bk w2 w1.heap.size tDr (dvC [] dv0) := b2
  have bx := b1.chg n2 (fun e => e)
  have e1 := b1.lt
  rcases d with ⟨bo, on, sl, go⟩
  cases go <;> cases bo <;> cases on <;> (
  (repeat' (first | refine Wl.moveE (by conv => { lhs; whnf }) ?_ | refine Wl.assignE (by conv => { lhs; whnf }) ?_ | refine Wl.nil ?_ | refine Qseq.normal ?_ | refine Wc.seq ?_ | refine Wc.region ?_ | refine Wc.block ?_ | refine Wc.condT rfl ?_ | refine Wc.condF rfl ?_ | refine Wl.fieldAddr rfl rfl ?_ | (refine Wl.eql rfl rfl (fun _ => ?_) (fun _ => ?_) <;> (first | (exfalso; omega) | skip))))
  (repeat' (refine Wl.load1 rfl (bx.cell rfl) ?_; (repeat' (first | refine Wl.moveE (by conv => { lhs; whnf }) ?_ | refine Wl.assignE (by conv => { lhs; whnf }) ?_ | refine Wl.nil ?_ | refine Wl.guardY rfl rfl ?_ | refine Wl.guardN rfl rfl ?_ | refine Wl.pickTE rfl (by conv => { lhs; whnf }) ?_ | refine Wl.pickFE rfl (by conv => { lhs; whnf }) ?_ | refine Wl.notB rfl ?_ | refine Qseq.normal ?_ | refine Wc.region ?_ | refine Wl.fieldAddr rfl rfl ?_))))
  refine Wl.store1 bx rfl (by simp [dvC]) rfl rfl fun w3 b3 c3 => ?_
  replace b3 : Bk w3 w.heap.size tDr (dvC p dd) := by subst hdd; exact b3
  (repeat' (first | refine Wl.nil ?_ | refine Qseq.normal ?_ | refine Wc.seq ?_ | refine Wc.region ?_ | refine Qblk.normal ?_))
  refine Wl.loadB b3 rfl rfl ?_
  (repeat' (refine Wl.moveE (by conv => { lhs; whnf }) ?_))
  refine Wl.storeB (o := 0) (new := dvC p dd) (b2.chg c3 (by omega)) rfl rfl rfl rfl (Nat.le_refl 5) (dvC_one _ _) fun w4 b4 c4 s4 => ?_
  (repeat' (first | refine Wl.assignE (by conv => { lhs; whnf }) ?_ | refine Wl.nil ?_ | refine Qseq.normal ?_ | refine Wc.ret ?_))
  exact Qfn.retR (results2 rfl (rvOf_agg (e := tDr) rfl rfl b4 rfl) (rvOf_tmp rfl)) ⟨_, rfl, by rw [hmm]; rfl, Chg.trans (Chg.trans (n1.trans n2) c3 fun k hk e => by omega) c4 fun k hk e => by omega⟩)
set_option maxHeartbeats 1000000 in
theorem doesO {w : World} {p : List UInt8} {d : Dv} {k : Nat} (hk : k = 0 ∨ 9 ≤ k) : Calls Tryz.prog 35 #[dvV p d, .int .u8 (k : Nat)] w (Ret fun r w' => r = .tuple #[dvV p (doM d k), .bool (mayM d k)] ∧ New w w') := by
  have hd : doM d k = d := by
    unfold doM; split <;> first | rfl | omega
  refine calls_of_Wc Tryz.func35 rfl Tryz.ntmps35 rfl ?_
  (repeat' (first | refine Wc.seq ?_ | refine Wc.region ?_))
  refine Wl.box rfl fun w1 b1 n1 s1 => ?_
  replace b1 : Bk w1 w.heap.size tDr (dvC p d) := b1
  skip
  refine Wl.alloc fun w2 b2 n2 s2 => ?_
  replace b2 : Bk w2 w1.heap.size tDr (dvC [] dv0) := b2
  have bx := b1.chg n2 (fun e => e)
  have e1 := b1.lt
  (repeat' (first | refine Wl.moveE (by conv => { lhs; whnf }) ?_ | refine Wl.assignE (by conv => { lhs; whnf }) ?_ | refine Wl.nil ?_ | refine Qseq.normal ?_ | refine Wc.seq ?_ | refine Wc.region ?_ | refine Wc.block ?_ | refine Wc.skip ?_ | refine Qblk.normal ?_ | refine Wc.condT rfl ?_ | refine Wc.condF rfl ?_ | (refine Wl.eql rfl rfl (fun _ => ?_) (fun _ => ?_) <;> (first | (exfalso; omega) | skip))))
  all_goals (
    refine Wl.loadB bx rfl rfl ?_
    (repeat' (refine Wl.moveE (by conv => { lhs; whnf }) ?_))
    refine Wl.storeB (o := 0) (new := dvC p d) b2 rfl rfl rfl rfl (Nat.le_refl 5) (dvC_one _ _) fun w4 b4 c4 s4 => ?_
    (repeat' (first | refine Wl.assignE (by conv => { lhs; whnf }) ?_ | refine Wl.nil ?_ | refine Qseq.normal ?_ | refine Wc.ret ?_))
    refine Qfn.retR (results2 rfl (rvOf_agg (e := tDr) rfl rfl b4 rfl) (rvOf_tmp rfl)) ⟨_, rfl, ?_, Chg.trans (n1.trans n2) c4 fun k hk e => by omega⟩
    rw [hd])
  · have e : k = 9 := by omega
    subst e; rfl
  · have e : mayM d k = false := by unfold mayM; split <;> first | rfl | omega
    rw [e]; rfl
set_option maxHeartbeats 1000000 in
theorem does_spec {w : World} {p : List UInt8} {d : Dv} {k : Nat} : Calls Tryz.prog 35 #[dvV p d, .int .u8 (k : Nat)] w (Ret fun r w' => r = .tuple #[dvV p (doM d k), .bool (mayM d k)] ∧ New w w') := by
  by_cases h : k = 0 ∨ 9 ≤ k
  · exact doesO h
  · rcases kinds9 (k := k) (by omega) (by omega) with rfl | rfl | rfl | rfl | rfl | rfl | rfl | rfl | rfl
    · exact does1
    · exact does2
    · exact does3
    · exact does4
    · exact does5
    · exact does6
    · exact does7
    · exact does8
    · exact absurd (.inr (Nat.le_refl _)) h
end Go.Proofs.YtjaendlcijmifaaGreatDoor

namespace Go.Proofs.YtjaendlcijmifaaGreatDoor
open Go Wk
open Go.RowKit (Below)
attribute [local irreducible] Go.Calls

section
variable {P : Program} {n : Nat} {ds : List Deferred} {F : Fr} {ops rest : List Oper} {d : Nat} {ty : TypeId} {pos : String} {aft : Array Edge} {C : World → Prop} {K : Fr → Prop}
theorem Wk.Wq.idxStr {x i : Operand} {t : TypeId} {l : List UInt8} {k : IntKind} {j : Int} {b : UInt8} [ht : Und P t .string] (hx : ev n F x = vs l) (hi : ev n F i = .int k j) (h0 : 0 ≤ j) (hj : l[j.toNat]? = some b)
    (c : Wq P n ds C K ops rest (upd F d (.int .u8 b.toNat))) : Wq P n ds C K ops (⟨some d, .index t x i, ty, pos, aft, none⟩ :: rest) F :=
  Wq.val (fun w _ => by simp only [execOp, hx, hi, Sem.run_bind, run_idxStr ht.h h0 hj, Result.andThen_ok, Sem.run_pure]) c
end
abbrev sgL : List UInt8 := [97, 98, 99, 100, 101, 102, 103, 104, 105, 106, 107, 108, 109, 110, 111, 112, 113, 114, 115, 116, 117, 118, 119, 120, 121, 122, 48, 49, 50, 51, 52, 53, 54, 55, 56, 57, 44, 46, 95, 43, 45, 64, 35, 63]
theorem ne_u8 {a b : UInt8} (h : ¬ ((a.toNat : Int) = (b.toNat : Int))) : a ≠ b := fun e => h (by rw [e])
theorem eq_u8 {a b : UInt8} (h : (a.toNat : Int) = (b.toNat : Int)) : a = b := UInt8.toNat_inj.1 (by omega)
set_option maxHeartbeats 1000000 in
theorem NameR_spec {w : World} {s : List UInt8} (hs : s.length ≤ 9223372036854775807) : Calls Tryz.prog 67 #[vs s] w (Ret fun r w' => r = .bool (nameOk s) ∧ New w w') := by
  have hsl : sgL.length = 44 := rfl
  have hsg : signs = sgL := signs_eq
  have hbad : ∀ {i : Nat} {c : UInt8}, s[i]? = some c → c ∉ sgL → Value.bool false = Value.bool (nameOk s) := fun hc h => by
    unfold nameOk
    rw [all_fail hc (Bool.eq_false_iff.2 fun e => h (hsg ▸ List.contains_iff_mem.1 e)), Bool.and_false]
  refine calls_of_Wc Tryz.func67 rfl Tryz.ntmps67 rfl ?_
  (repeat' (first | refine Wl.assignE (by conv => { lhs; whnf }) ?_ | refine Wl.nil ?_ | refine Qseq.normal ?_ | refine Wc.seq ?_ | refine Wc.region ?_ | refine Wc.block ?_))
  refine Wc.loop (σ := Nat) (fun i => [(0, vs s), (3, vi i)]) (fun i w' => i ≤ s.length ∧ (s.take i).all (fun c => signs.contains c) = true ∧ New w w') (fun i => s.length - i) 0 ⟨rfl, rfl, trivial⟩ ⟨Nat.zero_le _, rfl, Chg.refl _ _⟩ ?_
  rintro i G w1 ⟨hi, hall, n1⟩
  simp only [upds]
  (repeat' (first | refine Wl.moveE (by conv => { lhs; whnf }) ?_ | refine Wl.assignE (by conv => { lhs; whnf }) ?_ | refine Wl.nil ?_ | refine Wl.guardY rfl rfl ?_ | refine Wl.guardN rfl rfl ?_ | refine Wl.pickTE rfl (by conv => { lhs; whnf }) ?_ | refine Wl.pickFE rfl (by conv => { lhs; whnf }) ?_ | refine Wl.lenStr rfl ?_ | refine Qseq.normal ?_ | refine Wc.seq ?_ | refine Wc.region ?_ | refine Wc.block ?_ | refine Wc.skip ?_ | refine Wc.exit ?_ | refine Wc.ret ?_ | refine Qseq.exit ?_ | refine Qblk.hit ?_ | refine Qloop.exit ?_ | refine Wc.condT rfl ?_ | refine Wc.condF rfl ?_ | refine Wl.lss rfl rfl (fun _ => ?_) (fun _ => ?_) | refine Wl.leq rfl rfl (fun _ => ?_) (fun _ => ?_) | refine Wl.geq rfl rfl (fun _ => ?_) (fun _ => ?_)))
  · obtain ⟨c, hc⟩ := get_byte s (k := i) (by omega)
    refine Wc.loop (σ := Nat) (fun k => [(0, vs s), (3, vi i), (4, vi k)]) (fun k w' => k ≤ 44 ∧ c ∉ sgL.take k ∧ New w w') (fun k => 44 - k) 0 ⟨rfl, rfl, rfl, trivial⟩ ⟨Nat.zero_le _, by simp, n1⟩ ?_
    rintro k G w2 ⟨hk, hno, n2⟩
    simp only [upds]
    (repeat' (refine Wc.seq ?_))
    refine Wc.regionN rfl (by kernel_rfl) ?_
    (repeat' (first | refine Wq.moveE (by conv => { lhs; whnf }) ?_ | refine Wq.nil ?_ | refine Wq.guardY rfl rfl ?_ | refine Wq.guardN rfl rfl ?_ | refine Wq.pickFE rfl (by conv => { lhs; whnf }) ?_ | refine Wq.lss rfl rfl (fun _ => ?_) (fun _ => ?_)))
    · obtain ⟨d, hd⟩ := get_byte sgL (k := k) (by omega)
      refine Wq.idxStr rfl rfl (by omega) (by rw [Int.toNat_natCast]; exact hd) ?_
      (repeat' (first | refine Wq.moveE (by conv => { lhs; whnf }) ?_ | refine Wq.guardY rfl rfl ?_))
      refine Wq.idxStr rfl rfl (by omega) (by rw [Int.toNat_natCast]; exact hc) ?_
      (repeat' (first | refine Wq.nil ?_ | refine Wq.guardY rfl rfl ?_ | refine Wq.pickTE rfl (by conv => { lhs; whnf }) ?_ | refine Wq.neq rfl rfl (fun _ => ?_) (fun _ => ?_)))
      · intro w3 n3
        (repeat' (first | refine Wl.moveE (by conv => { lhs; whnf }) ?_ | refine Wl.assignE (by conv => { lhs; whnf }) ?_ | refine Wl.nil ?_ | refine Qseq.normal ?_ | refine Wc.region ?_ | refine Wc.block ?_ | refine Wc.skip ?_ | refine Qblk.normal ?_ | refine Wc.condT rfl ?_ | refine Wl.add rfl rfl (by omega) (by omega) ?_))
        refine Qloop.normal (k + 1) ⟨rfl, rfl, rfl, trivial⟩ ⟨by omega, ?_, New.trans n2 n3⟩ (by omega)
        rw [take_snoc' hd, List.mem_append, List.mem_singleton]
        rintro (e | e)
        · exact hno e
        · exact ne_u8 (by assumption) e.symm
      · intro w3 n3
        (repeat' (first | refine Wl.moveE (by conv => { lhs; whnf }) ?_ | refine Wl.assignE (by conv => { lhs; whnf }) ?_ | refine Wl.nil ?_ | refine Qseq.normal ?_ | refine Wc.seq ?_ | refine Wc.region ?_ | refine Wc.skip ?_ | refine Wc.exit ?_ | refine Qseq.exit ?_ | refine Qblk.normal ?_ | refine Qblk.hit ?_ | refine Qloop.exit ?_ | refine Wc.condF rfl ?_ | refine Wl.add rfl rfl (by omega) (by omega) ?_ | (refine Wl.eql rfl rfl (fun _ => ?_) (fun _ => ?_) <;> (first | (exfalso; omega) | skip))))
        have hdc : d = c := eq_u8 (by assumption)
        subst hdc
        refine Qloop.normal (i + 1) ⟨rfl, rfl, trivial⟩ ⟨by omega, all_step hc hall (by rw [hsg]; exact List.contains_iff_mem.2 (List.mem_of_getElem? hd)), New.trans n2 n3⟩ (by omega)
    · intro w3 n3
      have e : k = 44 := by omega
      subst e
      rw [show sgL.take 44 = sgL from rfl] at hno
      (repeat' (first | refine Wl.moveE (by conv => { lhs; whnf }) ?_ | refine Wl.assignE (by conv => { lhs; whnf }) ?_ | refine Wl.nil ?_ | refine Qseq.normal ?_ | refine Wc.seq ?_ | refine Wc.region ?_ | refine Wc.exit ?_ | refine Wc.ret ?_ | refine Qseq.exit ?_ | refine Qseq.ret ?_ | refine Qblk.ret ?_ | refine Qblk.hit ?_ | refine Qloop.exit ?_ | refine Qloop.ret ?_ | refine Wc.condT rfl ?_ | refine Wc.condF rfl ?_ | (refine Wl.eql rfl rfl (fun _ => ?_) (fun _ => ?_) <;> (first | (exfalso; omega) | skip))))
      exact Qfn.ret1 rfl rfl ⟨_, rfl, hbad hc hno, New.trans n2 n3⟩
  all_goals
    have e : i = s.length := by omega
    subst e
    rw [List.take_length] at hall
    have hq : nameOk s = decide (1 ≤ s.length ∧ s.length ≤ 31) := by
      unfold nameOk
      rw [hall, Bool.and_true]
      cases s with
      | nil => rfl
      | cons a r => simp
    rw [hq]
    refine Qfn.ret1 rfl rfl ⟨_, rfl, ?_, n1⟩
    first
      | (rw [decide_eq_true (by omega)]; rfl)
      | (rw [decide_eq_false (by omega)]; rfl)

end Go.Proofs.YtjaendlcijmifaaGreatDoor
