/-
  Texts of this claim, one behind the other: T3, Xx, Xy, Xs, Xt, Bq, Xz, T4, T1, T5, T6.
-/
import Derived.Test.YtjaendlcijmifaaDoorZd
import Derived.Maps.Keyed
import Derived.Laws.StructEq
import Derived.ChangeKeysEq
namespace Go.Proofs.YtjaendlcijmifaaDoor
open Go Wk
open Go.RowKit (Below)
attribute [local irreducible] Go.Calls

set_option maxRecDepth 4000 in
set_option maxHeartbeats 4000000 in
theorem guess_spec {w : World} {s : List UInt8} (hE : ErrV w) (hl : s.length ≤ 10000000) :
    Calls Tryd.prog 45 #[vs s] w (Ret fun r w' => (∃ y : Ev, r = evV y ∧ EvW y ∧ y.pa.length ≤ s.length ∧ ∀ x, EvL x → lineM x = s → x = y) ∧ New w w') := by
  refine calls_of_Wc Tryd.func45 rfl Tryd.ntmps45 rfl ?_
  (repeat' (first | refine Wc.seq ?_ | refine Wc.region ?_))
  refine Wl.alloc fun w1 b1 n1 s1 => ?_
  replace b1 : Bk w1 w.heap.size 31 (evC ev0) := b1
  (repeat' (first | refine Wl.moveE (by conv => { lhs; whnf }) ?_ | refine Wl.nil ?_ | refine Qseq.normal ?_ | refine Wc.seq ?_ | refine Wc.region ?_))
  refine Wl.call (words_spec hl) rfl ?_
  rintro v w2 ⟨ov, n2⟩
  have rv := (ov.rd goodS.mo).mono (Pb' := fun k => k < w2.heap.size) (mono_one _) fun k hk _ => hk
  obtain ⟨a, cp, rfl, hc1, hc2⟩ := rv.form
  simp only [maxLen] at hc2
  have b2 := b1.chg n2 (fun e => e)
  have n02 := n1.trans n2
  have z1 := n1.size
  clear n1 n2 b1 ov
  have hsum := splitR_sum 32 s
  have hcount := splitR_length 32 s
  have hcl : s.count 32 ≤ s.length := List.count_le_length
  have hsl : ∀ x, EvL x → lineM x = s → splitR 32 s = piecesM x := fun x hx e => by rw [← e]; exact split_line hx
  have hpl : ∀ (i : Nat) (y : List UInt8), (splitR 32 s)[i]? = some y → y.length ≤ s.length := fun i y hy => by
    have h1 := sum_ge' (List.mem_map.2 ⟨y, List.mem_of_getElem? hy, rfl⟩ : y.length + 1 ∈ (splitR 32 s).map fun x => x.length + 1)
    omega
  have hbad : (splitR 32 s).length < 5 → ∀ x, EvL x → lineM x ≠ s := fun h5 x hx e => by
    have h1 := congrArg List.length (hsl x hx e)
    unfold piecesM at h1
    split at h1 <;> simp at h1 <;> omega
  clear hsum hcl
  generalize splitR 32 s = ps at *
  (repeat' (first | refine Wl.assignE (by conv => { lhs; whnf }) ?_ | refine Wl.nil ?_ | refine Qseq.normal ?_ | refine Wc.seq ?_ | refine Wc.region ?_))
  refine Wl.alloc fun w3 b3 n3 s3 => ?_
  replace b3 : Bk w3 w2.heap.size 31 (evC ev0) := b3
  have bb3 := b2.chg n3 (fun e => e)
  have n03 := n02.trans n3
  have z3 := n3.size
  have rv3 := rv.keep (stable_one _) n3.keep
  have e2 := b2.lt
  have z2 := n02.size
  clear b2 n02 n3 rv
  (repeat' (first | refine Wl.moveE (by conv => { lhs; whnf }) ?_ | refine Wl.nil ?_ | refine Wl.lenS rfl ?_ | refine Qseq.normal ?_ | refine Wc.seq ?_ | refine Wc.region ?_ | refine Wc.skip ?_ | refine Wc.condT rfl ?_ | refine Wc.condF rfl ?_ | refine Wl.lss rfl rfl (fun _ => ?_) (fun _ => ?_)))
  · have hq := hbad (by omega)
    refine Wl.loadB b3 rfl rfl ?_
    refine Wl.storeB (o := 0) (new := evC ev0) bb3 rfl rfl rfl rfl (by decide) (evC_one _) fun w4 b4 c4 s4 => ?_
    (repeat' (first | refine Wl.nil ?_ | refine Qseq.normal ?_ | refine Wc.ret ?_ | refine Qseq.ret ?_))
    exact Qfn.retR (results1 rfl (rvOf_agg (e := 31) rfl rfl b4 rfl)) ⟨_, rfl, ⟨ev0, rfl, ⟨by decide, by decide, by decide, by decide, by decide, by decide, by decide⟩, Nat.zero_le _, fun x hx e => absurd e (hq x hx)⟩, Chg.trans n03 c4 fun k hk e => by omega⟩
  have hlen : 5 ≤ ps.length := by omega
  clear hbad
  obtain ⟨p0, h0⟩ := get_lt ps (k := 0) (by omega)
  obtain ⟨p1, h1⟩ := get_lt ps (k := 1) (by omega)
  obtain ⟨p2, h2⟩ := get_lt ps (k := 2) (by omega)
  obtain ⟨p3, h3⟩ := get_lt ps (k := 3) (by omega)
  obtain ⟨p4, h4⟩ := get_lt ps (k := 4) (by omega)
  refine Wl.idxAddrV rv3 rfl rfl (by omega) h0 fun b o hc => ?_
  refine Wl.load1 rfl hc ?_
  refine Wl.call (ParseUint_spec (hE.new n03) (by have := hpl 0 p0 h0; omega)) rfl ?_
  rintro _ w4 ⟨⟨k0, e0, rfl, hk0, hm0⟩, n4⟩
  have b4 := b3.chg n4 (fun e => e)
  (repeat' (first | refine Wl.moveE (by conv => { lhs; whnf }) ?_ | refine Wl.extract rfl rfl ?_ | refine Wl.fieldAddr rfl rfl ?_))
  refine Wl.store1 b4 rfl (by simp [evC]) rfl rfl fun w5 b5 c5 => ?_
  replace b5 : Bk w5 w2.heap.size 31 (evC ⟨k0, 0, 0, 0, [], 0⟩) := b5
  have c35 : Chg (fun k => k = w2.heap.size) w3 w5 := Chg.trans n4.any c5 fun _ _ e => e
  clear b3 n4 b4 c5 hc
  have n05 : New w w5 := Chg.trans n03 c35 fun k hk e => by omega
  have bb5 := bb3.chg c35 (by omega)
  have rv5 := rv3.keep (stable_one _) (c35.keep fun k hk e e' => by omega)
  clear bb3 rv3 n03 c35
  (repeat' (first | refine Wl.moveE (by conv => { lhs; whnf }) ?_ | refine Wl.nil ?_ | refine Qseq.normal ?_ | refine Wc.seq ?_ | refine Wc.region ?_))
  refine Wl.idxAddrV rv5 rfl rfl (by omega) h1 fun b o hc => ?_
  refine Wl.load1 rfl hc ?_
  refine Wl.call (ParseInt_spec (hE.new n05) (by have := hpl 1 p1 h1; omega)) rfl ?_
  rintro _ w6 ⟨⟨k1, e1, rfl, hk1, hk1', hm1⟩, n6⟩
  have b6 := b5.chg n6 (fun e => e)
  (repeat' (first | refine Wl.moveE (by conv => { lhs; whnf }) ?_ | refine Wl.extract rfl rfl ?_ | refine Wl.fieldAddr rfl rfl ?_))
  refine Wl.store1 b6 rfl (by simp [evC]) rfl rfl fun w7 b7 c7 => ?_
  replace b7 : Bk w7 w2.heap.size 31 (evC ⟨k0, 0, k1, 0, [], 0⟩) := b7
  have c57 : Chg (fun k => k = w2.heap.size) w5 w7 := Chg.trans n6.any c7 fun _ _ e => e
  clear b5 n6 b6 c7 hc
  have n07 : New w w7 := Chg.trans n05 c57 fun k hk e => by omega
  have bb7 := bb5.chg c57 (by omega)
  have rv7 := rv5.keep (stable_one _) (c57.keep fun k hk e e' => by omega)
  have z7 := c57.size
  have z5 := n05.size
  clear c57 bb5 rv5 n05
  (repeat' (first | refine Wl.nil ?_ | refine Qseq.normal ?_))
  refine Wk.Wc.cutW [(0, vs s), (2, pT w.heap.size), (3, .slice a ps.length cp), (4, pT w2.heap.size)] (fun W => ∃ kd, kd ≤ 9 ∧ (∀ j, 1 ≤ j → j ≤ 9 → nameK j = p2 → kd = j) ∧ Chg (fun k => k = w2.heap.size) w7 W ∧ Bk W w2.heap.size 31 (evC ⟨k0, 0, k1, kd, [], 0⟩)) ?_ ?_
  · (repeat' (first | refine Wl.assignE (by conv => { lhs; whnf }) ?_ | refine Wl.nil ?_ | refine Qseq.normal ?_ | refine Wc.seq ?_ | refine Wc.region ?_ | refine Wc.block ?_))
    refine Wc.loop (σ := Nat × Nat) (fun k => [(0, vs s), (2, pT w.heap.size), (3, .slice a ps.length cp), (4, pT w2.heap.size), (5, .int .u8 k.1)]) (fun k W => 1 ≤ k.1 ∧ k.1 ≤ 10 ∧ k.2 ≤ 9 ∧ (∀ j, 1 ≤ j → j < k.1 → nameK j = p2 → k.2 = j) ∧ Chg (fun k => k = w2.heap.size) w7 W ∧ Bk W w2.heap.size 31 (evC ⟨k0, 0, k1, k.2, [], 0⟩)) (fun k => 10 - k.1) (1, 0) ⟨rfl, rfl, rfl, rfl, rfl, trivial⟩ ⟨Nat.le_refl _, by decide, by decide, fun j h1 h2 => by omega, Chg.refl _ _, b7⟩ ?_
    clear b7
    rintro ⟨k, kd⟩ G3 W ⟨hka, hkb, hkd, hkn, cW, bW⟩
    dsimp only at hka hkb hkd hkn bW
    simp only [upds]
    have rvW := rv7.keep (stable_one _) (cW.keep fun k hk e e' => by omega)
    have fin : 10 ≤ k → ∀ j, 1 ≤ j → j ≤ 9 → nameK j = p2 → kd = j := fun h j h1 h2 => hkn j h1 (by omega)
    (repeat' (first | refine Wl.moveE (by conv => { lhs; whnf }) ?_ | refine Wl.nil ?_ | refine Qseq.normal ?_ | refine Wc.seq ?_ | refine Wc.region ?_ | refine Wc.block ?_ | refine Wc.skip ?_ | refine Wc.exit ?_ | refine Qseq.exit ?_ | refine Qblk.hit ?_ | refine Qloop.exit ?_ | refine Wc.condT rfl ?_ | refine Wc.condF rfl ?_ | refine Wl.leq rfl rfl (fun _ => ?_) (fun _ => ?_)))
    · refine Wc.regionT rfl (by kernel_rfl) (New W) (Chg.drew _ _) ?_
      intro W1 m1
      (repeat' (refine Wt.quiet rfl (Wq.moveE (by conv => { lhs; whnf }) (Wq.nil ?_))))
      refine Wt.chain rfl (Wl.call (KindR_spec (k := k) (by omega)) rfl ?_)
      rintro _ W2 ⟨rfl, m2⟩
      have m12 := m1.trans m2
      refine Wl.nil ⟨rfl, m12, ?_⟩
      (repeat' (refine Wt.quiet rfl (Wq.moveE (by conv => { lhs; whnf }) (Wq.nil ?_))))
      refine Wt.quiet rfl (Wq.idxAddrV rvW (fun W' c => c.keep) rfl rfl (by omega) h2 fun b o hc => Wq.nil ?_)
      refine Wt.quiet rfl (Wq.load1 rfl hc (Wq.nil ?_))
      have bW2 := bW.chg m12 (fun e => e)
      have cW2 : Chg (fun k => k = w2.heap.size) w7 W2 := Chg.trans cW m12.any fun _ _ e => e
      clear hc
      by_cases hn : nameK k = p2
      · (repeat' (first | refine Wt.nil ?_ | (refine Wt.quiet rfl (Wq.seql rfl rfl (fun _ => Wq.nil ?_) (fun _ => Wq.nil ?_)) <;> (first | (exfalso; contradiction) | skip))))
        (repeat' (first | refine Wl.moveE (by conv => { lhs; whnf }) ?_ | refine Qseq.normal ?_ | refine Wc.region ?_ | refine Wc.condT rfl ?_ | refine Wl.fieldAddr rfl rfl ?_))
        refine Wl.store1 bW2 rfl (by simp [evC]) rfl rfl fun W3 b3' c3' => ?_
        replace b3' : Bk W3 w2.heap.size 31 (evC ⟨k0, 0, k1, k, [], 0⟩) := b3'
        (repeat' (first | refine Wl.moveE (by conv => { lhs; whnf }) ?_ | refine Wl.nil ?_ | refine Qseq.normal ?_ | refine Wc.region ?_ | refine Qblk.normal ?_))
        refine Wl.addW rfl rfl ?_
        rw [show (k : Int) + 1 = ((k + 1 : Nat) : Int) by omega, wrap_u rfl (by omega) (by simp [IntKind.bits]; omega)]
        (repeat' (first | refine Wl.assignE (by conv => { lhs; whnf }) ?_ | refine Wl.nil ?_))
        refine Qloop.normal (k + 1, k) ⟨rfl, rfl, rfl, rfl, rfl, trivial⟩ ⟨by dsimp only; omega, by dsimp only; omega, by dsimp only; omega, fun j h1 h2 hj => ?_, Chg.trans cW2 c3' fun _ _ e => e, b3'⟩ (by dsimp only; omega)
        dsimp only at h2 ⊢
        exact (nameK_inj (fun e => by rw [nameK_nil] at e; omega) (hj.trans hn.symm)).symm
      · (repeat' (first | refine Wt.nil ?_ | (refine Wt.quiet rfl (Wq.seql rfl rfl (fun _ => Wq.nil ?_) (fun _ => Wq.nil ?_)) <;> (first | (exfalso; contradiction) | skip))))
        (repeat' (first | refine Wl.moveE (by conv => { lhs; whnf }) ?_ | refine Qseq.normal ?_ | refine Wc.region ?_ | refine Wc.skip ?_ | refine Qblk.normal ?_ | refine Wc.condF rfl ?_))
        refine Wl.addW rfl rfl ?_
        rw [show (k : Int) + 1 = ((k + 1 : Nat) : Int) by omega, wrap_u rfl (by omega) (by simp [IntKind.bits]; omega)]
        (repeat' (first | refine Wl.assignE (by conv => { lhs; whnf }) ?_ | refine Wl.nil ?_))
        refine Qloop.normal (k + 1, kd) ⟨rfl, rfl, rfl, rfl, rfl, trivial⟩ ⟨by dsimp only; omega, by dsimp only; omega, hkd, fun j h1 h2 hj => ?_, cW2, bW2⟩ (by dsimp only; omega)
        dsimp only at h2 ⊢
        rcases Nat.lt_or_ge j k with hjk | hjk
        · exact hkn j h1 hjk hj
        · obtain rfl : j = k := by omega
          exact absurd hj hn
    · exact ⟨rfl, ⟨rfl, rfl, rfl, rfl, trivial⟩, kd, hkd, fin (by omega), cW, bW⟩
  clear b7
  rintro G3 w8 ⟨kd, hkd9, hkd, c78, b8⟩
  simp only [upds]
  have n08 : New w w8 := Chg.trans n07 c78 fun k hk e => by omega
  have bb8 := bb7.chg c78 (by omega)
  have rv8 := rv7.keep (stable_one _) (c78.keep fun k hk e e' => by omega)
  have z8 := c78.size
  clear c78 bb7 rv7 n07
  (repeat' (first | refine Wl.moveE (by conv => { lhs; whnf }) ?_ | refine Wc.seq ?_ | refine Wc.region ?_))
  refine Wl.idxAddrV rv8 rfl rfl (by omega) h3 fun b o hc => ?_
  refine Wl.load1 rfl hc ?_
  (repeat' (refine Wl.fieldAddr rfl rfl ?_))
  refine Wl.store1 b8 rfl (by simp [evC]) rfl rfl fun w9 b9 c9 => ?_
  replace b9 : Bk w9 w2.heap.size 31 (evC ⟨k0, 0, k1, kd, p3, 0⟩) := b9
  have n09 : New w w9 := Chg.trans n08 c9 fun k hk e => by omega
  have bb9 := bb8.chg c9 (by omega)
  have rv9 := rv8.keep (stable_one _) (c9.keep fun k hk e e' => by omega)
  have z9 := c9.size
  clear b8 c9 bb8 rv8 n08 hc
  (repeat' (first | refine Wl.moveE (by conv => { lhs; whnf }) ?_ | refine Wl.nil ?_ | refine Qseq.normal ?_ | refine Wc.seq ?_ | refine Wc.region ?_))
  refine Wl.idxAddrV rv9 rfl rfl (by omega) h4 fun b o hc => ?_
  refine Wl.load1 rfl hc ?_
  refine Wl.call (ParseInt_spec (hE.new n09) (by have := hpl 4 p4 h4; omega)) rfl ?_
  rintro _ w10 ⟨⟨k4, e4, rfl, hk4, hk4', hm4⟩, n10⟩
  have b10 := b9.chg n10 (fun e => e)
  (repeat' (first | refine Wl.moveE (by conv => { lhs; whnf }) ?_ | refine Wl.extract rfl rfl ?_ | refine Wl.fieldAddr rfl rfl ?_))
  refine Wl.store1 b10 rfl (by simp [evC]) rfl rfl fun w11 b11 c11 => ?_
  replace b11 : Bk w11 w2.heap.size 31 (evC ⟨k0, 0, k1, kd, p3, k4⟩) := b11
  have c911 : Chg (fun k => k = w2.heap.size) w9 w11 := Chg.trans n10.any c11 fun _ _ e => e
  have n011 : New w w11 := Chg.trans n09 c911 fun k hk e => by omega
  have bb11 := bb9.chg c911 (by omega)
  have rv11 := rv9.keep (stable_one _) (c911.keep fun k hk e e' => by omega)
  have z11 := c911.size
  clear b9 n10 b10 c11 c911 bb9 rv9 n09 hc
  (repeat' (first | refine Wl.nil ?_ | refine Qseq.normal ?_))
  refine Wk.Wc.cutW [(0, vs s), (2, pT w.heap.size), (4, pT w2.heap.size)] (fun W => ∃ k6 : Nat, k6 < 18446744073709551616 ∧ New w W ∧ Bk W w.heap.size 31 (evC ev0) ∧ Bk W w2.heap.size 31 (evC ⟨k0, k6, k1, kd, p3, k4⟩) ∧ (ps.length = 5 → k6 = 0) ∧ (ps.length = 7 → ∀ p6, ps[6]? = some p6 → ∀ m, m < 18446744073709551616 → p6 = decN m → k6 = m)) ?_ ?_
  · (repeat' (first | refine Wl.moveE (by conv => { lhs; whnf }) ?_ | refine Wl.nil ?_ | refine Wl.lenS rfl ?_ | refine Qseq.normal ?_ | refine Wc.seq ?_ | refine Wc.region ?_ | refine Wc.skip ?_ | refine Wc.condT rfl ?_ | refine Wc.condF rfl ?_ | refine Wl.eql rfl rfl (fun _ => ?_) (fun _ => ?_)))
    · obtain ⟨p6, h6⟩ := get_lt ps (k := 6) (by omega)
      refine Wl.idxAddrV rv11 rfl rfl (by omega) h6 fun b o hc => ?_
      refine Wl.load1 rfl hc ?_
      refine Wl.call (ParseUint_spec (hE.new n011) (by have := hpl 6 p6 h6; omega)) rfl ?_
      rintro _ w12 ⟨⟨k6, e6, rfl, hk6, hm6⟩, n12⟩
      have b12 := b11.chg n12 (fun e => e)
      (repeat' (first | refine Wl.moveE (by conv => { lhs; whnf }) ?_ | refine Wl.extract rfl rfl ?_ | refine Wl.fieldAddr rfl rfl ?_))
      refine Wl.store1 b12 rfl (by simp [evC]) rfl rfl fun w13 b13 c13 => ?_
      replace b13 : Bk w13 w2.heap.size 31 (evC ⟨k0, k6, k1, kd, p3, k4⟩) := b13
      have c1113 : Chg (fun k => k = w2.heap.size) w11 w13 := Chg.trans n12.any c13 fun _ _ e => e
      (repeat' (refine Wl.nil ?_))
      exact ⟨rfl, ⟨rfl, rfl, rfl, trivial⟩, k6, hk6, Chg.trans n011 c1113 fun k hk e => by omega, bb11.chg c1113 (by omega), b13, fun e => by omega, fun _ q hq m hm e => hm6 m hm (by rw [h6] at hq; cases hq; exact e)⟩
    · exact ⟨rfl, ⟨rfl, rfl, rfl, trivial⟩, 0, by omega, n011, bb11, b11, fun _ => rfl, fun e => by omega⟩
  clear b11 bb11 rv11 n011
  rintro G4 W ⟨k6, hk6, nW, bb, bx, h60, h6⟩
  simp only [upds]
  have hyW : EvW ⟨k0, k6, k1, kd, p3, k4⟩ := ⟨hk0, hk6, hk1, hk1', by show kd < 256; omega, hk4, hk4'⟩
  have key : ∀ x, EvL x → lineM x = s → x = ⟨k0, k6, k1, kd, p3, k4⟩ := by
    intro x hx e
    have hp := hsl x hx e
    have g : ∀ i : Nat, ps[i]? = (piecesM x)[i]? := fun i => by rw [hp]
    have g0 := (h0.symm.trans (g 0)).trans (show (piecesM x)[0]? = some (decN x.id) from rfl)
    have g1 := (h1.symm.trans (g 1)).trans (show (piecesM x)[1]? = some (decI x.tm) from rfl)
    have g2 := (h2.symm.trans (g 2)).trans (show (piecesM x)[2]? = some (nameK x.kd) from rfl)
    have g3 := (h3.symm.trans (g 3)).trans (show (piecesM x)[3]? = some x.pa from rfl)
    have g4 := (h4.symm.trans (g 4)).trans (show (piecesM x)[4]? = some (decI x.ar) from rfl)
    have q0 := hm0 x.id hx.w.id (Option.some.inj g0)
    have q1 := hm1 x.tm hx.w.t0 hx.w.t1 (Option.some.inj g1)
    have q3 := Option.some.inj g3
    have q4 := hm4 x.ar hx.w.a0 hx.w.a1 (Option.some.inj g4)
    have q2 : kd = x.kd := by
      have hk := hx.k
      rw [ne_eq, nameK_nil] at hk
      exact hkd x.kd (by omega) (by omega) (Option.some.inj g2).symm
    have q6 : k6 = x.ca := by
      by_cases hc0 : x.ca = 0
      · rw [hc0]
        refine h60 ?_
        rw [hp]; unfold piecesM; rw [if_pos hc0]; rfl
      · refine h6 ?_ (decN x.ca) ?_ x.ca hx.w.ca rfl
        · rw [hp]; unfold piecesM; rw [if_neg hc0]; rfl
        · rw [hp]; unfold piecesM; rw [if_neg hc0]; rfl
    subst q0 q1 q2 q3 q4 q6
    rfl
  have hp3 := hpl 3 p3 h3
  clear hsl hpl hm0 hm1 hm4 h6 h60 h0 h1 h2 h3 h4 hlen
  have zW := nW.size
  (repeat' (first | refine Wc.seq ?_ | refine Wc.region ?_))
  refine Wl.loadB bx rfl rfl ?_
  refine Wl.storeB (o := 0) (new := evC ⟨k0, k6, k1, kd, p3, k4⟩) bb rfl rfl rfl rfl (Nat.le_refl 6) (evC_one _) fun W9 b9 c9 s9 => ?_
  (repeat' (first | refine Wl.nil ?_ | refine Qseq.normal ?_ | refine Wc.ret ?_))
  exact Qfn.retR (results1 rfl (rvOf_agg (e := 31) rfl rfl b9 rfl)) ⟨_, rfl, ⟨⟨k0, k6, k1, kd, p3, k4⟩, rfl, hyW, hp3, key⟩, Chg.trans nW c9 fun k hk e => by omega⟩
end Go.Proofs.YtjaendlcijmifaaDoor

namespace Go.Proofs.YtjaendlcijmifaaDoor
open Go Wk
open Go.RowKit (Below)
attribute [local irreducible] Go.Calls

theorem TrOk.evl {t : Tr} (h : TrOk t) {e : Ev} (he : e ∈ t.kept) : EvL e := by
  obtain ⟨i, hi⟩ := List.mem_iff_getElem?.1 he
  obtain ⟨h1, h2, h3⟩ := h.ok e he
  have h4 := h.ids i e hi
  have h5 := h.last
  have h6 := (List.getElem?_eq_some_iff.1 hi).1
  unfold Tr.last at h5
  exact ⟨h1, h2, h3, by omega, by omega, h.cas e he⟩
/-- A ring that is being filled. -/
structure RgW (Pb : Nat → Prop) (w : World) (b size gone : Nat) (v : Value) (ring : List Ev) : Prop where
  hb : Pb b
  bk : Bk w b 69 [vi size, v, vi (0 : Nat), .int .u64 gone]
  own : OwnS rEv 36 6 Pb (fun _ => False) w v ring
  ne : v.ownBlock ≠ some b
  len : ring.length ≤ size
  s1 : size ≤ 4096
  last : gone + ring.length ≤ 4611686018427387904
section
variable {Pb : Nat → Prop} {w w' : World} {b size gone : Nat} {v : Value} {ring : List Ev}
theorem RgW.new (h : RgW Pb w b size gone v ring) (n : New w w') : RgW Pb w' b size gone v ring :=
  ⟨h.hb, h.bk.chg n (fun e => e), h.own.new (plain_flat _) n, h.ne, h.len, h.s1, h.last⟩
theorem lastW_spec (h : RgW Pb w b size gone v ring) : Calls Tryd.prog 30 #[pT b] w (Ret fun r w' => r = .int .u64 (gone + ring.length : Nat) ∧ New w w') := by
  obtain ⟨a, cap, rfl, hc1, hc2⟩ := h.own.form
  have hl := h.last
  refine calls_of_Wc Tryd.func30 rfl Tryd.ntmps30 rfl ?_
  (repeat' (first | refine Wl.assignE (by conv => { lhs; whnf }) ?_ | refine Wl.nil ?_ | refine Qseq.normal ?_ | refine Wc.seq ?_ | refine Wc.region ?_))
  refine Wc.regionN rfl (by kernel_rfl) ?_
  (repeat' (first | refine Wq.moveE (by conv => { lhs; whnf }) ?_ | refine Wq.nilP rfl ?_ | refine Wq.fieldAddr rfl rfl ?_))
  refine Wq.load1 rfl (fun w' n => (h.new n).bk.cell (o := 3) rfl) ?_
  (repeat' (first | refine Wq.moveE (by conv => { lhs; whnf }) ?_ | refine Wq.nilP rfl ?_ | refine Wq.fieldAddr rfl rfl ?_))
  refine Wq.load1 rfl (fun w' n => (h.new n).bk.cell (o := 1) rfl) ?_
  (repeat' (first | refine Wq.lenS rfl ?_ | refine Wq.convI rfl ?_))
  refine Wq.addW rfl rfl ?_
  (repeat' (first | refine Wq.assignE (by conv => { lhs; whnf }) ?_ | refine Wq.nil ?_))
  intro w1 n1
  (repeat' (first | refine Qseq.normal ?_ | refine Wc.ret ?_))
  refine Qfn.ret1 rfl rfl ⟨_, rfl, ?_, n1⟩
  show Value.int .u64 (IntKind.u64.wrap ((gone : Int) + IntKind.u64.wrap (ring.length : Int))) = _
  rw [wu (x := (ring.length : Int)) (by omega) (by omega), wu (by omega) (by omega)]
  rfl
set_option maxHeartbeats 1000000 in
theorem putW_spec {x : Ev} (h : RgW Pb w b size gone v ring) (hlt : ring.length < size) (hlast : gone + ring.length + 1 ≤ 4611686018427387904) :
    Calls Tryd.prog 34 #[pT b, evV x] w (Ret fun _ w' => (∃ v', RgW (fun k => Pb k ∨ w.heap.size ≤ k) w' b size gone v' (ring ++ [x])) ∧ Chg Pb w w') := by
  have hs := h.s1
  obtain ⟨a, cap, hv, hc1, hc2⟩ := h.own.form
  refine calls_of_Wc Tryd.func34 rfl Tryd.ntmps34 rfl ?_
  (repeat' (first | refine Wc.seq ?_ | refine Wc.region ?_))
  refine Wl.box rfl fun w1 b1 n1 s1 => ?_
  replace b1 : Bk w1 w.heap.size 36 (evC x) := b1
  have h1 := h.new n1
  have hblt := h.bk.lt
  have hvlt : ∀ k, v.ownBlock = some k → Pb k ∧ k < w.heap.size := fun k hk => h.own.lt hk
  have hne := h.ne
  (repeat' (first | refine Wl.nil ?_ | refine Qseq.normal ?_ | refine Wc.seq ?_))
  refine Wc.regionN rfl (by kernel_rfl) ?_
  (repeat' (first | refine Wq.moveE (by conv => { lhs; whnf }) ?_ | refine Wq.nilP rfl ?_ | refine Wq.fieldAddr rfl rfl ?_))
  refine Wq.load1 rfl (fun w' n => (h1.new n).bk.cell (o := 1) (u := .slice a ring.length cap) (by rw [hv]; rfl)) ?_
  (repeat' (first | refine Wq.moveE (by conv => { lhs; whnf }) ?_ | refine Wq.lenS rfl ?_ | refine Wq.nilP rfl ?_ | refine Wq.fieldAddr rfl rfl ?_))
  refine Wq.load1 rfl (fun w' n => (h1.new n).bk.cell (o := 0) rfl) ?_
  (repeat' (first | refine Wq.nil ?_ | (refine Wq.lss rfl rfl (fun _ => ?_) (fun _ => ?_) <;> (first | (exfalso; omega) | skip))))
  intro w2 n2
  have h2 := h1.new n2
  have b2 := b1.chg n2 (fun e => e)
  have n02 := n1.trans n2
  have s02 := n02.size
  clear h1 b1 n1 n2 h
  (repeat' (first | refine Qseq.normal ?_ | refine Wc.seq ?_ | refine Wc.condT rfl ?_))
  refine Wc.regionT rfl (by kernel_rfl) (fun w' => Chg (fun k => v.ownBlock = some k) w2 w') (Chg.drew _ _) ?_
  intro w3 n3
  have bk : ∀ w', Chg (fun k => v.ownBlock = some k) w2 w' → Bk w' b 69 [vi size, v, vi (0 : Nat), .int .u64 gone] := fun w' c => h2.bk.chg c hne
  have bx : ∀ w', Chg (fun k => v.ownBlock = some k) w2 w' → Bk w' w.heap.size 36 (evC x) := fun w' c => b2.chg c fun e => by have := (hvlt _ e).2; omega
  (repeat' (first | refine Wt.quiet rfl (Wq.moveE (by conv => { lhs; whnf }) (Wq.nil ?_)) | refine Wt.quiet rfl (Wq.nilP rfl (Wq.nil ?_)) | refine Wt.quiet rfl (Wq.fieldAddr rfl rfl (Wq.nil ?_))))
  refine Wt.quiet rfl (Wq.load1 rfl (fun w' c => (bk w' c).cell (o := 1) rfl) (Wq.nil ?_))
  refine Wt.quiet rfl (Wq.loadAt (fun w' c => (bx w' c).at) rfl rfl (Wq.nil ?_))
  have h3 := h2.new n3
  refine Wt.chain rfl (Wl.buildSlice1 (R := rEv) (Pe := fun _ => False) (y := x) goodEv rfl rfl rfl rfl (by omega) (by omega) fun v4 w4 o4 n4 s4 e4 => ?_)
  have n34 := n3.trans n4
  have h4 := h3.new n4
  refine Wl.nil ⟨rfl, n34.any, ?_⟩
  refine Wt.chain rfl (Wl.appendAll (R := rEv) goodEv h4.own (o4.rd goodEv.mo) (fun y cs hy => hy) rfl rfl (by omega) (by simp only [maxLen, List.length_singleton]; omega) (by simp only [List.length_singleton]; omega) fun v5 w5 o5 c5 lie _ => ?_)
  have c25 : Chg (fun k => v.ownBlock = some k) w2 w5 := Chg.trans n34.any c5 fun k _ e => e
  refine Wl.nil ⟨rfl, c25, ?_⟩
  have bk5 := bk w5 c25
  (repeat' (first | refine Wt.quiet rfl (Wq.nilP rfl (Wq.nil ?_)) | refine Wt.quiet rfl (Wq.fieldAddr rfl rfl (Wq.nil ?_))))
  refine Wt.last rfl (Wl.store1 bk5 rfl (by simp) rfl (by obtain ⟨_, _, rfl, _⟩ := o5.form; rfl) fun w6 b6 c6 => ?_)
  have s24 := n34.size
  have s5 := c5.size
  have hv5 : ∀ k, v5.ownBlock = some k → k ≠ b := by
    intro k hk
    rcases lie with lie | lie
    · rw [lie] at hk; exact fun e => hne (e ▸ hk)
    · have := lie k hk; omega
  have c26 : Chg (fun k => v.ownBlock = some k ∨ k = b) w2 w6 := Chg.trans (c25.mono fun _ _ e => .inl e) c6 fun _ _ e => .inr e
  have cf : Chg Pb w w6 := Chg.trans n02.any c26 fun k hk e => by
    rcases e with e | rfl
    · exact (hvlt k e).1
    · exact h2.hb
  (repeat' (first | refine Wl.nil ?_ | refine Qseq.normal ?_ | refine Wc.ret ?_ | refine Qseq.ret ?_))
  refine Qfn.ret0 rfl ⟨_, rfl, ⟨v5, .inl h2.hb, b6, ?_, fun e => hv5 b e rfl, by rw [List.length_append, List.length_singleton]; omega, hs, by rw [List.length_append, List.length_singleton]; omega⟩, cf⟩
  exact (o5.chg (plain_flat _) c6 fun k hk e => hv5 k hk e).mono goodEv.mo (fun k _ hk => by rcases hk with hk | hk; exact .inl hk; exact .inr (by omega)) fun _ _ e => e
end
/-- What has been read so far. -/
structure ChR (n : Nat) (ls : List (List UInt8)) (gone i : Nat) (ks : List Ev) : Prop where
  len : ks.length = i
  lin : ks.map lineM = ls.take i
  evl : ∀ e ∈ ks, EvL e
  ids : ∀ (j : Nat) (e : Ev), ks[j]? = some e → e.id = gone + j + 1
  tms : ∀ (j : Nat) (e f : Ev), ks[j]? = some e → ks[j + 1]? = some f → e.tm ≤ f.tm
  zero : i = 0 → gone = 0
  full : 0 < gone → ls.length = n
theorem ChR.same {n gone i : Nat} {ls : List (List UInt8)} {ks : List Ev} (h : ChR n ls gone i ks) {t : Tr} (ht : TrOk t) (hl : linesM t = ls) {j : Nat} {e f : Ev} (he : ks[j]? = some e) (hf : t.kept[j]? = some f) : e = f := by
  have h1 : (ks.map lineM)[j]? = some (lineM e) := by rw [List.getElem?_map, he]; rfl
  have h2 : ls[j]? = some (lineM f) := by rw [← hl]; unfold linesM; rw [List.getElem?_map, hf]; rfl
  have hj := (List.getElem?_eq_some_iff.1 he).1
  rw [h.lin, List.getElem?_take, if_pos (by have := h.len; omega), h2] at h1
  exact line_inj (h.evl e (List.mem_of_getElem? he)) (ht.evl (List.mem_of_getElem? hf)) (Option.some.inj h1).symm
/-- What stands in the way of the next line. -/
theorem ChR.step {n gone i : Nat} {ls : List (List UInt8)} {ks : List Ev} (h : ChR n ls gone i ks) {t : Tr} (ht : TrOk t) (hn : t.size = n) (hl : linesM t = ls) {s : List UInt8} (hs : ls[i]? = some s) :
    ∃ f, EvL f ∧ lineM f = s ∧ (0 < i → f.id = gone + i + 1 ∧ ∀ e, ks[i - 1]? = some e → e.tm ≤ f.tm) ∧ (i = 0 → 1 < f.id → ls.length = n) := by
  have hlen : t.kept.length = ls.length := by rw [← hl]; simp [linesM]
  have hi := (List.getElem?_eq_some_iff.1 hs).1
  obtain ⟨f, hf⟩ := get_lt t.kept (k := i) (by omega)
  have hfs : lineM f = s := by
    rw [← hl] at hs
    unfold linesM at hs
    rw [List.getElem?_map, hf] at hs
    exact Option.some.inj hs
  have hfi := ht.ids i f hf
  refine ⟨f, ht.evl (List.mem_of_getElem? hf), hfs, fun h0 => ?_, fun h0 h1 => ?_⟩
  · obtain ⟨e0, he0⟩ := get_lt ks (k := 0) (by have := h.len; omega)
    obtain ⟨f0, hf0⟩ := get_lt t.kept (k := 0) (by omega)
    have hs0 := h.same ht hl he0 hf0
    have i0 := h.ids 0 e0 he0
    have j0 := ht.ids 0 f0 hf0
    subst hs0
    refine ⟨by omega, fun e he => ?_⟩
    obtain ⟨g, hg⟩ := get_lt t.kept (k := i - 1) (by omega)
    rw [h.same ht hl he hg]
    exact ht.tms (i - 1) g f hg (by rw [show i - 1 + 1 = i by omega]; exact hf)
  · have := ht.full (by omega)
    omega
theorem ChR.done {n gone : Nat} {ls : List (List UInt8)} {ks : List Ev} (h : ChR n ls gone ls.length ks) (h0 : 1 ≤ n) (h1 : n ≤ 4096) (hl : ls.length ≤ n) : TrOk ⟨n, gone, ks⟩ ∧ linesM ⟨n, gone, ks⟩ = ls := by
  have hlen := h.len
  refine ⟨⟨h0, h1, by show ks.length ≤ n; omega, fun e => (by show ks.length = n; have := h.full e; omega), ?_, h.ids, fun e he => (h.evl e he).c, fun e he => ⟨(h.evl e he).w, (h.evl e he).k, (h.evl e he).p⟩, h.tms⟩, ?_⟩
  · unfold Tr.last
    dsimp only
    rcases Nat.eq_zero_or_pos ks.length with hz | hz
    · have := h.zero (by omega); omega
    · obtain ⟨e, he⟩ := get_lt ks (k := ks.length - 1) (by omega)
      have h2 := h.ids _ e he
      have h3 := (h.evl e (List.mem_of_getElem? he)).i1
      omega
  · show ks.map lineM = ls
    rw [h.lin, List.take_length]
end Go.Proofs.YtjaendlcijmifaaDoor

namespace Go.Proofs.YtjaendlcijmifaaDoor
open Go Wk
open Go.RowKit (Below)
attribute [local irreducible] Go.Calls

def readE (n : Int) : Int := if n < 1 ∨ 4096 < n then 1 else 4
theorem lastW_q {Pb : Nat → Prop} {b size gone : Nat} {v : Value} {ring : List Ev} {W : World} (h : RgW Pb W b size gone v ring) : ∀ w', New W w' → Calls Tryd.prog 30 ([pT b] : List Value).toArray w' (fun e w'' => e = .returned (.int .u64 (gone + ring.length : Nat)) ∧ New W w'') := by
  intro w' n
  refine (lastW_spec (h.new n)).mono ?_
  rintro e w'' ⟨v, rfl, rfl, n2⟩
  exact ⟨rfl, n.trans n2⟩
theorem RgW.mono {Pb Pb' : Nat → Prop} {w : World} {b size gone : Nat} {v : Value} {ring : List Ev} (h : RgW Pb w b size gone v ring) (hP : ∀ k, k < w.heap.size → Pb k → Pb' k) : RgW Pb' w b size gone v ring :=
  ⟨hP b h.bk.lt h.hb, h.bk, h.own.mono goodEv.mo hP (fun _ _ e => e), h.ne, h.len, h.s1, h.last⟩
theorem ChR.next {n gone g i : Nat} {ls : List (List UInt8)} {ks : List Ev} (h : ChR n ls gone i ks) {s : List UInt8} {y : Ev} (hs : ls[i]? = some s) (hy : EvL y) (hys : lineM y = s) (h1 : y.id = g + i + 1) (h2 : 0 < i → g = gone)
    (h3 : i = 0 → 0 < g → ls.length = n) (h4 : 0 < i → ∀ e, ks[i - 1]? = some e → e.tm ≤ y.tm) : ChR n ls g (i + 1) (ks ++ [y]) := by
  have hl := h.len
  refine ⟨by rw [List.length_append, List.length_singleton, hl], ?_, fun e he => ?_, fun j e he => ?_, fun j e f he hf => ?_, fun e => by omega, fun h0 => ?_⟩
  · rw [List.map_append, h.lin, take_snoc' hs, ← hys]; rfl
  · rcases List.mem_append.1 he with he | he
    · exact h.evl e he
    · rw [List.mem_singleton.1 he]; exact hy
  · rcases Nat.lt_or_ge j ks.length with hj | hj
    · rw [List.getElem?_append_left hj] at he
      rw [h2 (by omega)]; exact h.ids j e he
    · have := (List.getElem?_eq_some_iff.1 he).1
      rw [List.length_append, List.length_singleton] at this
      have ej : j = ks.length := by omega
      subst ej
      rw [List.getElem?_append_right (Nat.le_refl _), Nat.sub_self] at he
      cases he
      omega
  · have hj2 := (List.getElem?_eq_some_iff.1 hf).1
    rw [List.length_append, List.length_singleton] at hj2
    rw [List.getElem?_append_left (by omega)] at he
    rcases Nat.lt_or_ge (j + 1) ks.length with hj | hj
    · rw [List.getElem?_append_left hj] at hf
      exact h.tms j e f he hf
    · have ej : j + 1 = ks.length := by omega
      rw [ej, List.getElem?_append_right (Nat.le_refl _), Nat.sub_self] at hf
      cases hf
      exact h4 (by omega) e (by rw [show i - 1 = j by omega]; exact he)
  · rcases Nat.eq_zero_or_pos i with hi | hi
    · exact h3 hi h0
    · exact h.full (h2 hi ▸ h0)
set_option maxRecDepth 4000 in
set_option maxHeartbeats 4000000 in
theorem Read_spec {Pb : Nat → Prop} {w : World} {v : Value} {ls : List (List UInt8)} {n : Int} (ht : Tb w) (hE : ErrV w) (h : RdS (one vs) 1 Pb w v ls) (hls : ∀ s ∈ ls, s.length ≤ 10000000) (hlen : ls.length ≤ 10000000) :
    Calls Tryd.prog 20 #[v, vi n] w (Ret fun r w' => ((r = .tuple #[.pointer none, vi (readE n)] ∧ ∀ t, TrOk t → (t.size : Int) = n → linesM t ≠ ls) ∨ (∃ b t, r = .tuple #[pT b, vi 0] ∧ TrOk t ∧ (t.size : Int) = n ∧ linesM t = ls ∧ Rg (fun k => w.heap.size ≤ k) w' b t)) ∧ New w w') := by
  obtain ⟨a, cp, rfl, hc1, hc2⟩ := h.form
  simp only [maxLen] at hc2
  refine calls_of_Wc Tryd.func20 rfl Tryd.ntmps20 rfl ?_
  (repeat' (first | refine Wl.moveE (by conv => { lhs; whnf }) ?_ | refine Wl.assignE (by conv => { lhs; whnf }) ?_ | refine Wl.nil ?_ | refine Qseq.normal ?_ | refine Wc.seq ?_ | refine Wc.region ?_))
  refine Wl.call (New_spec (n := n)) rfl ?_
  rintro r w1 ⟨hr, n1⟩
  rcases hr with ⟨hr, rfl, rfl⟩ | ⟨hn0, hn1, b, rfl, rg⟩
  · (repeat' (first | refine Wl.moveE (by conv => { lhs; whnf }) ?_ | refine Wl.assignE (by conv => { lhs; whnf }) ?_ | refine Wl.nil ?_ | refine Wl.extract rfl rfl ?_ | refine Qseq.normal ?_ | refine Wc.seq ?_ | refine Wc.region ?_ | refine Wc.ret ?_ | refine Qseq.ret ?_ | refine Wc.condT rfl ?_ | (refine Wl.neq rfl rfl (fun _ => ?_) (fun _ => ?_) <;> (first | (exfalso; omega) | skip))))
    refine Qfn.ret2 rfl rfl rfl ⟨_, rfl, .inl ⟨?_, fun t htk hn => ?_⟩, n1⟩
    · unfold readE; rw [if_pos hr]; rfl
    · have := htk.s0
      have := htk.s1
      omega
  obtain ⟨N, rfl⟩ : ∃ N : Nat, n = (N : Int) := ⟨n.toNat, by omega⟩
  have hre : readE (N : Int) = 4 := if_neg (by omega)
  rw [Int.toNat_natCast] at rg
  obtain ⟨v1, ring, old, rg⟩ := rg
  have hkp := rg.kp
  have hro : ring.length = 0 := by have := rg.len; exact this.symm
  have hr0 : ring = [] := List.eq_nil_of_length_eq_zero hro
  subst hr0
  have ho0 : old = 0 := by have := rg.lt; simp at this; exact this
  subst ho0
  have rw1 : RgW (fun k => w.heap.size ≤ k) w1 b N 0 v1 [] := ⟨rg.hb, rg.bk, rg.own, rg.ne, Nat.zero_le _, by omega, by simp⟩
  clear rg hkp hro
  have z1 := n1.size
  (repeat' (first | refine Wl.moveE (by conv => { lhs; whnf }) ?_ | refine Wl.assignE (by conv => { lhs; whnf }) ?_ | refine Wl.nil ?_ | refine Wl.extract rfl rfl ?_ | refine Wl.lenS rfl ?_ | refine Qseq.normal ?_ | refine Wc.seq ?_ | refine Wc.region ?_ | refine Wc.block ?_ | refine Wc.skip ?_ | refine Wc.ret ?_ | refine Qseq.ret ?_ | refine Wc.condT rfl ?_ | refine Wc.condF rfl ?_ | refine Wl.gtr rfl rfl (fun _ => ?_) (fun _ => ?_) | (refine Wl.neq rfl rfl (fun _ => ?_) (fun _ => ?_) <;> (first | (exfalso; omega) | skip))))
  · refine Qfn.ret2 rfl rfl rfl ⟨_, rfl, .inl ⟨by rw [hre]; rfl, fun t htk hn hl => ?_⟩, n1⟩
    have h1 := congrArg List.length hl
    unfold linesM at h1
    rw [List.length_map] at h1
    have := htk.len
    omega
  have hle : ls.length ≤ N := by omega
  refine Wc.loop (σ := Nat) (fun i => [(0, .slice a ls.length cp), (1, vi N), (6, pT b), (24, .slice a ls.length cp), (25, vi ls.length), (26, vi i)]) (fun i W => i ≤ ls.length ∧ New w W ∧ ∃ gone vr ks, RgW (fun k => w.heap.size ≤ k) W b N gone vr ks ∧ ChR N ls gone i ks) (fun i => ls.length - i) 0 ⟨rfl, rfl, rfl, rfl, rfl, rfl, trivial⟩
    ⟨Nat.zero_le _, n1, 0, v1, [], rw1, ⟨rfl, by simp, fun e he => (by simp at he), fun j e he => (by simp at he), fun j e f he => (by simp at he), fun _ => rfl, fun e => absurd e (Nat.lt_irrefl _)⟩⟩ ?_
  clear rw1 n1
  rintro i G W ⟨hi, nW, gone, vr, ks, rg, ch⟩
  simp only [upds]
  have zW := nW.size
  have hksl := ch.len
  (repeat' (first | refine Wl.moveE (by conv => { lhs; whnf }) ?_ | refine Wl.assignE (by conv => { lhs; whnf }) ?_ | refine Wl.nil ?_ | refine Qseq.normal ?_ | refine Wc.seq ?_ | refine Wc.region ?_ | refine Wc.block ?_ | refine Wc.skip ?_ | refine Wc.exit ?_ | refine Wc.ret ?_ | refine Qseq.exit ?_ | refine Qblk.hit ?_ | refine Qloop.exit ?_ | refine Wc.condT rfl ?_ | refine Wc.condF rfl ?_ | refine Wl.lss rfl rfl (fun _ => ?_) (fun _ => ?_)))
  · obtain ⟨s, hs⟩ := get_lt ls (k := i) (by omega)
    have hsl := hls s (List.mem_of_getElem? hs)
    refine Wl.idxAddrV (h.keep (stable_one _) nW.keep) rfl rfl (by omega) (by rw [Int.toNat_natCast]; exact hs) fun bb o hc => ?_
    refine Wl.load1 rfl hc ?_
    (repeat' (first | refine Wl.moveE (by conv => { lhs; whnf }) ?_ | refine Wl.assignE (by conv => { lhs; whnf }) ?_ | refine Wl.nil ?_ | refine Qseq.normal ?_ | refine Wc.seq ?_ | refine Wc.region ?_))
    refine Wl.call (event_spec (ht.new nW) (hE.new nW) hsl) rfl ?_
    rintro _ W1 ⟨⟨y, q, rfl, hqt, hqf⟩, m1⟩
    (repeat' (first | refine Wl.moveE (by conv => { lhs; whnf }) ?_ | refine Wl.extract rfl rfl ?_))
    refine Wl.alloc fun W2 b2 m2 s2 => ?_
    refine Wl.storeB (o := 0) (new := evC y) b2 rfl rfl rfl rfl (Nat.le_refl 6) (evC_one _) fun W3 b3 c3 s3 => ?_
    replace b3 : Bk W3 W1.heap.size 36 (evC y) := b3
    have m13 : New W1 W3 := Chg.trans m2 c3 fun _ _ e => by omega
    have m03 := m1.trans m13
    have rg3 := rg.new m03
    have n3 := nW.trans m03
    have zm := m1.size
    have hbW := rg.bk.lt
    clear b2 m2 c3 s2 s3 m1 m13 m03 rg nW hc
    have stop : (∀ t : Tr, TrOk t → (t.size : Int) = (N : Int) → linesM t = ls → False) → ∀ F W', F 4 = .pointer none → F 5 = vi 4 → New W3 W' → Qfn Tryd.prog 92 Tryd.f20 (Ret fun r w' => ((r = .tuple #[.pointer none, vi (readE (N : Int))] ∧ ∀ t, TrOk t → (t.size : Int) = (N : Int) → linesM t ≠ ls) ∨ (∃ b t, r = .tuple #[pT b, vi 0] ∧ TrOk t ∧ (t.size : Int) = (N : Int) ∧ linesM t = ls ∧ Rg (fun k => w.heap.size ≤ k) w' b t)) ∧ New w w') .ret F W' := fun hno F W' h4 h5 m =>
      Qfn.ret2 (t := 4) (u := 5) rfl rfl rfl ⟨_, rfl, .inl ⟨by rw [h4, h5, hre], fun t h1 h2 h3 => hno t h1 h2 h3⟩, n3.trans m⟩
    have hid : q = true → y.id < 18446744073709551616 := fun e => by have := (hqt e).1.i1; omega
    (repeat' (first | refine Wl.assignE (by conv => { lhs; whnf }) ?_ | refine Wl.nil ?_ | refine Qseq.normal ?_))
    refine Wc.cutR (fun F W' => agrees F [(0, .slice a ls.length cp), (1, vi N), (6, pT b), (8, vi i), (10, pT W1.heap.size), (24, .slice a ls.length cp), (25, vi ls.length), (26, vi i)] ∧ New W3 W' ∧ EvL y ∧ lineM y = s ∧ (0 < i → y.id = gone + i + 1 ∧ ∀ e, ks[i - 1]? = some e → e.tm ≤ y.tm) ∧ (i = 0 → 1 < y.id → ls.length = N)) ?_ ?_
    · (repeat' (refine Wc.seq ?_))
      refine Wc.regionN rfl (by kernel_rfl) ?_
      cases q with
      | false =>
        (repeat' (first | refine Wq.moveE (by conv => { lhs; whnf }) ?_ | refine Wq.nil ?_ | refine Wq.guardN rfl rfl ?_ | refine Wq.guardU rfl ?_ | refine Wq.pickTE rfl (by conv => { lhs; whnf }) ?_ | refine Wq.notB rfl ?_))
        intro W4 n4
        (repeat' (first | refine Wl.assignE (by conv => { lhs; whnf }) ?_ | refine Wl.nil ?_ | refine Qseq.normal ?_ | refine Wc.seq ?_ | refine Wc.region ?_ | refine Wc.ret ?_ | refine Qseq.ret ?_ | refine Qblk.ret ?_ | refine Qloop.ret ?_ | refine Wc.condT rfl ?_ | refine Qm.ret ?_))
        refine stop (fun t h1 h2 h3 => ?_) _ _ rfl rfl n4
        obtain ⟨f, hf, hfs, _⟩ := ch.step h1 (by omega) h3 hs
        exact hqf rfl f hf hfs
      | true =>
        obtain ⟨hy, hys⟩ := hqt rfl
        rcases Nat.eq_zero_or_pos i with hi0 | hi0
        · subst hi0
          (repeat' (first | refine Wq.moveE (by conv => { lhs; whnf }) ?_ | refine Wq.guardY rfl rfl ?_ | refine Wq.guardN rfl rfl ?_ | refine Wq.guardU rfl ?_ | refine Wq.pickFE rfl (by conv => { lhs; whnf }) ?_ | refine Wq.notB rfl ?_ | refine Wq.fieldAddr rfl rfl ?_ | (refine Wq.gtr rfl rfl (fun _ => ?_) (fun _ => ?_) <;> (first | (exfalso; omega) | skip)) | (refine Wq.eql rfl rfl (fun _ => ?_) (fun _ => ?_) <;> (first | (exfalso; omega) | skip))))
          refine Wq.load1 (u := .int .u64 y.id) rfl (fun w' n => (b3.chg n (fun e => e)).cell (o := 0) rfl) ?_
          (repeat' (first | refine Wq.moveE (by conv => { lhs; whnf }) ?_ | refine Wq.nil ?_ | refine Wq.guardY rfl rfl ?_ | refine Wq.guardN rfl rfl ?_ | refine Wq.pickTE rfl (by conv => { lhs; whnf }) ?_ | refine Wq.pickFE rfl (by conv => { lhs; whnf }) ?_ | refine Wq.lenS rfl ?_ | refine Wq.lss rfl rfl (fun _ => ?_) (fun _ => ?_) | refine Wq.gtr rfl rfl (fun _ => ?_) (fun _ => ?_)))
          · intro W4 n4
            (repeat' (first | refine Wl.assignE (by conv => { lhs; whnf }) ?_ | refine Wl.nil ?_ | refine Qseq.normal ?_ | refine Wc.seq ?_ | refine Wc.region ?_ | refine Wc.ret ?_ | refine Qseq.ret ?_ | refine Qblk.ret ?_ | refine Qloop.ret ?_ | refine Wc.condT rfl ?_ | refine Qm.ret ?_))
            refine stop (fun t h1 h2 h3 => ?_) _ _ rfl rfl n4
            obtain ⟨f, hf, hfs, _, hf0⟩ := ch.step h1 (by omega) h3 hs
            have e := line_inj hf hy (hfs.trans hys.symm)
            subst e
            have := hf0 rfl (by omega)
            omega
          · intro W4 n4
            (repeat' (first | refine Qseq.normal ?_ | refine Wc.skip ?_ | refine Wc.condF rfl ?_))
            exact Qm.normal ⟨⟨rfl, rfl, rfl, rfl, rfl, rfl, rfl, rfl, trivial⟩, n4, hy, hys, fun h => absurd h (Nat.lt_irrefl _), fun _ _ => by omega⟩
          · intro W4 n4
            (repeat' (first | refine Qseq.normal ?_ | refine Wc.skip ?_ | refine Wc.condF rfl ?_))
            exact Qm.normal ⟨⟨rfl, rfl, rfl, rfl, rfl, rfl, rfl, rfl, trivial⟩, n4, hy, hys, fun h => absurd h (Nat.lt_irrefl _), fun _ h => by omega⟩
        · (repeat' (first | refine Wq.moveE (by conv => { lhs; whnf }) ?_ | refine Wq.guardY rfl rfl ?_ | refine Wq.notB rfl ?_ | refine Wq.fieldAddr rfl rfl ?_ | (refine Wq.gtr rfl rfl (fun _ => ?_) (fun _ => ?_) <;> (first | (exfalso; omega) | skip))))
          refine Wq.load1 (u := .int .u64 y.id) rfl (fun w' n => (b3.chg n (fun e => e)).cell (o := 0) rfl) ?_
          (repeat' (first | refine Wq.moveE (by conv => { lhs; whnf }) ?_ | refine Wq.guardY rfl rfl ?_))
          refine Wq.call (lastW_q rg3) rfl ?_
          (repeat' (refine Wq.guardY rfl rfl ?_))
          refine Wq.addW rfl rfl ?_
          have hl3 := rg3.last
          rw [wu (by omega) (by omega)]
          (repeat' (first | refine Wq.moveE (by conv => { lhs; whnf }) ?_ | refine Wq.nil ?_ | refine Wq.guardY rfl rfl ?_ | refine Wq.guardN rfl rfl ?_ | refine Wq.guardU rfl ?_ | refine Wq.pickTE rfl (by conv => { lhs; whnf }) ?_ | refine Wq.pickFE rfl (by conv => { lhs; whnf }) ?_ | refine Wq.fieldAddr rfl rfl ?_ | refine Wq.neq rfl rfl (fun _ => ?_) (fun _ => ?_)))
          · intro W4 n4
            (repeat' (first | refine Wl.assignE (by conv => { lhs; whnf }) ?_ | refine Wl.nil ?_ | refine Qseq.normal ?_ | refine Wc.seq ?_ | refine Wc.region ?_ | refine Wc.ret ?_ | refine Qseq.ret ?_ | refine Qblk.ret ?_ | refine Qloop.ret ?_ | refine Wc.condT rfl ?_ | refine Qm.ret ?_))
            refine stop (fun t h1 h2 h3 => ?_) _ _ rfl rfl n4
            obtain ⟨f, hf, hfs, hf0, _⟩ := ch.step h1 (by omega) h3 hs
            have e := line_inj hf hy (hfs.trans hys.symm)
            subst e
            have := (hf0 hi0).1
            omega
          refine Wq.load1 (u := vi y.tm) rfl (fun w' n => (b3.chg n (fun e => e)).cell (o := 2) rfl) ?_
          (repeat' (first | refine Wq.moveE (by conv => { lhs; whnf }) ?_ | refine Wq.guardY rfl rfl ?_ | refine Wq.nilP rfl ?_ | refine Wq.fieldAddr rfl rfl ?_))
          refine Wq.load1 rfl (fun w' n => (rg3.new n).bk.cell (o := 1) rfl) ?_
          (repeat' (first | refine Wq.moveE (by conv => { lhs; whnf }) ?_ | refine Wq.guardY rfl rfl ?_ | refine Wq.sub rfl rfl (by omega) (by omega) ?_))
          obtain ⟨x, hx⟩ := get_lt ks (k := i - 1) (by omega)
          refine Wq.idxAddr (rg3.own.rd goodEv.mo) (fun w' n => n.keep) rfl rfl (by omega) (by rw [show ((i : Int) - 1).toNat = i - 1 by omega]; exact hx) fun bb o cs hcl hR hat => ?_
          obtain rfl : cs = evC x := hR
          (repeat' (first | refine Wq.guardY rfl rfl ?_ | refine Wq.fieldAddr rfl rfl ?_))
          refine Wq.load1 (u := vi x.tm) rfl (fun w' n => (hat w' n).get 2 rfl) ?_
          (repeat' (first | refine Wq.moveE (by conv => { lhs; whnf }) ?_ | refine Wq.nil ?_ | refine Wq.guardY rfl rfl ?_ | refine Wq.guardN rfl rfl ?_ | refine Wq.guardU rfl ?_ | refine Wq.pickTE rfl (by conv => { lhs; whnf }) ?_ | refine Wq.pickFE rfl (by conv => { lhs; whnf }) ?_ | refine Wq.lss rfl rfl (fun _ => ?_) (fun _ => ?_) | (refine Wq.eql rfl rfl (fun _ => ?_) (fun _ => ?_) <;> (first | (exfalso; omega) | skip))))
          · intro W4 n4
            (repeat' (first | refine Wl.assignE (by conv => { lhs; whnf }) ?_ | refine Wl.nil ?_ | refine Qseq.normal ?_ | refine Wc.seq ?_ | refine Wc.region ?_ | refine Wc.ret ?_ | refine Qseq.ret ?_ | refine Qblk.ret ?_ | refine Qloop.ret ?_ | refine Wc.condT rfl ?_ | refine Qm.ret ?_))
            refine stop (fun t h1 h2 h3 => ?_) _ _ rfl rfl n4
            obtain ⟨f, hf, hfs, hf0, _⟩ := ch.step h1 (by omega) h3 hs
            have e := line_inj hf hy (hfs.trans hys.symm)
            subst e
            have := (hf0 hi0).2 x hx
            omega
          · intro W4 n4
            (repeat' (first | refine Qseq.normal ?_ | refine Wc.skip ?_ | refine Wc.condF rfl ?_))
            exact Qm.normal ⟨⟨rfl, rfl, rfl, rfl, rfl, rfl, rfl, rfl, trivial⟩, n4, hy, hys, fun _ => ⟨by omega, fun e he => by cases hx.symm.trans he; omega⟩, fun h => by omega⟩
    · rintro F4 W4 ⟨ag, n4, hy, hys, hA, hB⟩
      refine Wc.frame _ ag fun G4 => ?_
      simp only [upds]
      have rg4 := rg3.new n4
      have b4 := b3.chg n4 (fun e => e)
      have n04 := n3.trans n4
      have z4 := n04.size
      have hyi := hy.i1
      have hyi0 := hy.i0
      clear stop hqt hqf hid rg3 b3 n3 n4 ag
      refine Wk.Wc.cutW [(0, .slice a ls.length cp), (1, vi N), (6, pT b), (8, vi i), (10, pT W1.heap.size), (24, .slice a ls.length cp), (25, vi ls.length), (26, vi i)] (fun W => New w W ∧ ∃ g, RgW (fun k => w.heap.size ≤ k) W b N g vr ks ∧ y.id = g + i + 1 ∧ (0 < i → g = gone) ∧ (i = 0 → 0 < g → ls.length = N) ∧ Bk W W1.heap.size 36 (evC y)) ?_ ?_
      · (repeat' (first | refine Wl.moveE (by conv => { lhs; whnf }) ?_ | refine Wl.nil ?_ | refine Qseq.normal ?_ | refine Wc.seq ?_ | refine Wc.region ?_ | refine Wc.skip ?_ | refine Wc.condT rfl ?_ | refine Wc.condF rfl ?_ | refine Wl.fieldAddr rfl rfl ?_ | refine Wl.eql rfl rfl (fun _ => ?_) (fun _ => ?_)))
        · refine Wl.load1 (u := .int .u64 y.id) rfl (b4.cell (o := 0) rfl) ?_
          skip
          refine Wl.subW rfl rfl ?_
          rw [show ((y.id : Nat) : Int) - 1 = ((y.id - 1 : Nat) : Int) by omega, wu (by omega) (by omega)]
          (repeat' (first | refine Wl.nilP rfl ?_ | refine Wl.fieldAddr rfl rfl ?_))
          refine Wl.store1 rg4.bk rfl (by simp) rfl rfl fun W5 b5 c5 => ?_
          have hb4 := rg4.hb
          have hne4 := rg4.ne
          have hln := rg4.len
          (repeat' (refine Wl.nil ?_))
          exact ⟨rfl, ⟨rfl, rfl, rfl, rfl, rfl, rfl, rfl, rfl, trivial⟩, Chg.trans n04 c5 fun k hk e => by omega, y.id - 1, ⟨hb4, b5, rg4.own.chg (plain_flat _) c5 fun k hk e => hne4 (e ▸ hk), hne4, hln, rg4.s1, by omega⟩, by omega, fun h => by omega, fun h h' => hB h (by omega), b4.chg c5 (by omega)⟩
        · exact ⟨rfl, ⟨rfl, rfl, rfl, rfl, rfl, rfl, rfl, rfl, trivial⟩, n04, gone, rg4, (hA (by omega)).1, fun _ => rfl, fun h => by omega, b4⟩
      rintro G5 W5 ⟨n05, g, rg5, hg1, hg2, hg3, b5⟩
      simp only [upds]
      clear rg4 b4 n04
      have z5 := n05.size
      (repeat' (first | refine Wl.moveE (by conv => { lhs; whnf }) ?_ | refine Wc.region ?_))
      refine Wl.loadAt b5.at rfl rfl ?_
      skip
      refine Wl.call (putW_spec (x := y) rg5 (by omega) (by omega)) rfl ?_
      rintro _ W6 ⟨⟨v6, rg6⟩, c6⟩
      have n06 : New w W6 := Chg.trans n05 c6 fun k hk e => by omega
      (repeat' (first | refine Wl.moveE (by conv => { lhs; whnf }) ?_ | refine Wl.nil ?_ | refine Qseq.normal ?_ | refine Wc.region ?_ | refine Qblk.normal ?_ | refine Wl.add rfl rfl (by omega) (by omega) ?_))
      exact Qloop.normal (i + 1) ⟨rfl, rfl, rfl, rfl, rfl, rfl, trivial⟩ ⟨by omega, n06, g, v6, ks ++ [y], rg6.mono (fun k _ hk => by rcases hk with hk | hk <;> omega), ch.next hs hy hys hg1 hg2 hg3 fun h => (hA h).2⟩ (by omega)
  · have e : i = ls.length := by omega
    subst e
    obtain ⟨h1, h2⟩ := ch.done (by omega) (by omega) hle
    exact Qfn.ret2 rfl rfl rfl ⟨_, rfl, .inr ⟨b, ⟨N, gone, ks⟩, rfl, h1, rfl, h2, vr, ks, 0, h1, rg.hb, rg.bk, rg.own, rg.ne, by simp, .inr rfl, fun _ => rfl⟩, nW⟩
end Go.Proofs.YtjaendlcijmifaaDoor

namespace Go.Proofs.YtjaendlcijmifaaDoor
open Go Wk
open Go.RowKit (Below)
attribute [local irreducible] Go.Calls

section
variable {P : Program} {n : Nat} {ds : List Deferred} {Q : Po} {F : Fr} {w : World} {ops rest : List Oper} {d : Nat} {ty : TypeId} {pos : String} {aft : Array Edge}
theorem Wk.Wl.mapIns {x i y : Operand} {t k e : TypeId} {b : Nat} {l : List (Value × Value)} {key u : Value} {q : Lit} [ht : Und P t (.map k e)] (Kd : Maps.Keyed P k) (h : MapL P k w b l) (hq : keyOf P k key = some q) (hn : ∀ p ∈ l, p.1 ≠ key)
    (hx : ev n F x = .map (some b)) (hi : ev n F i = key) (hy : ev n F y = u) (c : ∀ w', MapL P k w' b (l ++ [(key, u)]) → Chg (fun j => j = b) w w' → w'.heap.size = w.heap.size → Wl P n ds Q ops rest F w') :
    Wl P n ds Q ops (⟨none, .insert t x i y, ty, pos, aft, none⟩ :: rest) F w := by
  have hlt := h.lt
  obtain ⟨es, clock, hh, rfl, hk⟩ := h
  have hg := run_getObj_map (P := P) w b es clock hh
  rcases Kd.find w hq es.toList hk with ⟨hf, _⟩ | ⟨j, e0, hf, hj, rfl⟩
  · have h1 : (w.heap.setIfInBounds b (.map (es.push { key, val := u, born := clock }) (clock + 1)))[b]? = some (.map (es.push { key, val := u, born := clock }) (clock + 1)) := by simp [Array.getElem?_setIfInBounds, hlt]
    have hset : (setObj b (.map (es.push { key, val := u, born := clock }) (clock + 1))).run P w = .ok () { w with heap := w.heap.setIfInBounds b (.map (es.push { key, val := u, born := clock }) (clock + 1)) } := by simp [setObj, Sem.run, hh]
    refine Wl.unit (w' := { w with heap := w.heap.setIfInBounds b (.map (es.push { key, val := u, born := clock }) (clock + 1)) }) ?_ (c _ ⟨_, _, h1, by simp, fun e he => ?_⟩ ⟨rfl, rfl, rfl, by simp, fun j _ hj => Array.getElem?_setIfInBounds_ne (Ne.symm hj)⟩ (by simp))
    · simp [execOp, hx, hi, hy, Instr.mapUpdate, run_underlying ht.h, hg, Kd.check w _ hq, hf, hset]
    · simp only [Array.toList_push, List.mem_append, List.mem_singleton] at he
      rcases he with he | rfl
      · exact hk e he
      · exact ⟨q, hq⟩
  · exfalso
    have hm := List.mem_of_getElem? hj
    exact hn (e0.key, e0.val) (List.mem_map.2 ⟨e0, hm, rfl⟩) rfl
end
/-- Those that one has led to. -/
def ledS (id : Nat) (l : List Ev) : List Nat := l.foldl (fun out x => if (id :: out).contains x.ca then out ++ [x.id] else out) []
def ledM (t : Tr) (id : Nat) : List Nat × Int := match t.get id with
  | none => ([], 6)
  | some _ => (ledS id t.kept, 0)
theorem ledS_snoc {id : Nat} {l : List Ev} {k : Nat} {y : Ev} (h : l[k]? = some y) : ledS id (l.take (k + 1)) = if (id :: ledS id (l.take k)).contains y.ca then ledS id (l.take k) ++ [y.id] else ledS id (l.take k) := by
  unfold ledS
  rw [take_snoc' h, List.foldl_append]; rfl
theorem ledS_inv {t : Tr} (h : TrOk t) (id : Nat) : ∀ k : Nat, k ≤ t.kept.length → (∀ z ∈ ledS id (t.kept.take k), id < z ∧ z ≤ t.gone + k) ∧ (ledS id (t.kept.take k)).length ≤ k
  | 0, _ => ⟨fun z hz => by simp [ledS] at hz, by simp [ledS]⟩
  | k + 1, hk => by
    obtain ⟨y, hy⟩ := get_lt t.kept (k := k) (by omega)
    obtain ⟨ih, il⟩ := ledS_inv h id k (by omega)
    have hi := h.ids k y hy
    have hc := h.cas y (List.mem_of_getElem? hy)
    rw [ledS_snoc hy]
    split
    · rename_i hm
      refine ⟨fun z hz => ?_, by rw [List.length_append, List.length_singleton]; omega⟩
      rcases List.mem_append.1 hz with hz | hz
      · have := ih z hz; omega
      · rw [List.mem_singleton.1 hz]
        rcases List.mem_cons.1 (List.contains_iff_mem.1 hm) with e | e
        · omega
        · have := ih _ e; omega
    · exact ⟨fun z hz => by have := ih z hz; omega, by omega⟩
abbrev u64V : Nat → Value := fun i => .int .u64 i
theorem goodU : GoodR (one u64V) 1 := good_one _ fun _ => rfl
def mp (S : List Nat) : List (Value × Value) := S.map fun i => (u64V i, vi 1)
theorem kU : Maps.Keyed Tryd.prog 27 := Maps.int_keyed Tryd.underlying27
theorem keyU {i : Nat} (h : i < 18446744073709551616) : keyOf Tryd.prog 27 (u64V i) = some (.int .u64 i) :=
  Maps.keyOf_int_mk Tryd.underlying27 (by simp [Lit.wf, IntKind.min, IntKind.max, IntKind.signed, IntKind.bits]; omega)
theorem u64V_inj {i j : Nat} (h : u64V i = u64V j) : i = j := by
  simp only [u64V, Value.int.injEq, true_and] at h; omega
theorem mp_in {S : List Nat} {i : Nat} {r z : Value} (h : (u64V i, r) ∈ mp S ∨ r = z ∧ ∀ p ∈ mp S, p.1 ≠ u64V i) : (i ∈ S ∧ r = vi 1) ∨ (i ∉ S ∧ r = z) := by
  rcases h with h | ⟨h1, h2⟩
  · obtain ⟨j, hj, he⟩ := List.mem_map.1 h
    rw [Prod.mk.injEq] at he
    rw [← u64V_inj he.1]
    exact .inl ⟨hj, he.2.symm⟩
  · exact .inr ⟨fun hi => h2 _ (List.mem_map.2 ⟨i, hi, rfl⟩) rfl, h1⟩
theorem mp_not {S : List Nat} {i : Nat} (h : i ∉ S) : ∀ p ∈ mp S, p.1 ≠ u64V i := by
  intro p hp he
  obtain ⟨j, hj, rfl⟩ := List.mem_map.1 hp
  exact h (u64V_inj he ▸ hj)
theorem mp_snoc (S : List Nat) (i : Nat) : mp S ++ [(u64V i, vi 1)] = mp (S ++ [i]) := by simp [mp]
set_option maxHeartbeats 2000000 in
theorem Led_spec {Pb : Nat → Prop} {w : World} {b : Nat} {t : Tr} {id : Nat} (h : Rg Pb w b t) (hid : id < 18446744073709551616) :
    Calls Tryd.prog 17 #[pT b, .int .u64 id] w (Ret fun r w' => ∃ v, r = .tuple #[v, vi (ledM t id).2] ∧ OwnS (one u64V) 27 1 (fun k => w.heap.size ≤ k) No w' v (ledM t id).1 ∧ New w w') := by
  have hok := h.ok
  have hlast := hok.last
  refine calls_of_Wd Tryd.func17 rfl Tryd.ntmps17 rfl ?_
  (repeat' (first | refine Wl.moveE (by conv => { lhs; whnf }) ?_ | refine Wl.assignE (by conv => { lhs; whnf }) ?_ | refine Wl.nil ?_ | refine Wl.extract rfl rfl ?_ | refine Wl.guardY rfl rfl ?_ | refine Wl.guardN rfl rfl ?_ | refine Wl.guardU rfl ?_ | refine Wl.pickTE rfl (by conv => { lhs; whnf }) ?_ | refine Wl.pickFE rfl (by conv => { lhs; whnf }) ?_ | refine Wl.notB rfl ?_ | refine Wl.lenS rfl ?_ | refine Wl.lenStr rfl ?_ | refine Wd.seq ?_ | refine Wd.block ?_ | refine Wd.condT rfl ?_ | refine Wd.condF rfl ?_ | refine Qds.normal ?_ | refine Qds.exit ?_ | refine Qds.ret ?_ | refine Qdb.normal ?_ | refine Qdb.ret ?_ | refine Qdb.hit ?_ | refine Qdb.miss rfl ?_ | refine Qdn.e ?_ | refine Wd.region ?_ | refine Wd.skip ?_ | refine Wd.exit ?_ | refine Wd.ret ?_ | refine Wl.nilP rfl ?_ | refine Wl.fieldAddr rfl rfl ?_ | refine Wl.nilF rfl ?_ | refine Wl.add rfl rfl (by omega) (by omega) ?_ | refine Wl.sub rfl rfl (by omega) (by omega) ?_ | refine Wl.mul rfl rfl (by omega) (by omega) ?_ | refine Wl.convI rfl ?_ | (refine Wl.lss rfl rfl (fun _ => ?_) (fun _ => ?_) <;> (first | (exfalso; omega) | (exfalso; contradiction) | skip)) | (refine Wl.leq rfl rfl (fun _ => ?_) (fun _ => ?_) <;> (first | (exfalso; omega) | (exfalso; contradiction) | skip)) | (refine Wl.gtr rfl rfl (fun _ => ?_) (fun _ => ?_) <;> (first | (exfalso; omega) | (exfalso; contradiction) | skip)) | (refine Wl.geq rfl rfl (fun _ => ?_) (fun _ => ?_) <;> (first | (exfalso; omega) | (exfalso; contradiction) | skip)) | (refine Wl.eql rfl rfl (fun _ => ?_) (fun _ => ?_) <;> (first | (exfalso; omega) | (exfalso; contradiction) | skip)) | (refine Wl.neq rfl rfl (fun _ => ?_) (fun _ => ?_) <;> (first | (exfalso; omega) | (exfalso; contradiction) | skip)) | (refine Wl.seql rfl rfl (fun _ => ?_) (fun _ => ?_) <;> (first | (exfalso; omega) | (exfalso; contradiction) | skip)) | (refine Wl.sneq rfl rfl (fun _ => ?_) (fun _ => ?_) <;> (first | (exfalso; omega) | (exfalso; contradiction) | skip))))
  refine Wl.call (Get_spec h hid) rfl ?_
  rintro r w1 ⟨hr, n1⟩
  cases hg : t.get id with
  | none =>
    rw [hg] at hr
    obtain rfl := hr
    have hm : ledM t id = ([], 6) := by unfold ledM; rw [hg]
    rw [hm]
    (repeat' (first | refine Wl.moveE (by conv => { lhs; whnf }) ?_ | refine Wl.assignE (by conv => { lhs; whnf }) ?_ | refine Wl.nil ?_ | refine Wl.extract rfl rfl ?_ | refine Wl.guardY rfl rfl ?_ | refine Wl.guardN rfl rfl ?_ | refine Wl.guardU rfl ?_ | refine Wl.pickTE rfl (by conv => { lhs; whnf }) ?_ | refine Wl.pickFE rfl (by conv => { lhs; whnf }) ?_ | refine Wl.notB rfl ?_ | refine Wl.lenS rfl ?_ | refine Wl.lenStr rfl ?_ | refine Wd.seq ?_ | refine Wd.block ?_ | refine Wd.condT rfl ?_ | refine Wd.condF rfl ?_ | refine Qds.normal ?_ | refine Qds.exit ?_ | refine Qds.ret ?_ | refine Qdb.normal ?_ | refine Qdb.ret ?_ | refine Qdb.hit ?_ | refine Qdb.miss rfl ?_ | refine Qdn.e ?_ | refine Wd.region ?_ | refine Wd.skip ?_ | refine Wd.exit ?_ | refine Wd.ret ?_ | refine Wl.nilP rfl ?_ | refine Wl.fieldAddr rfl rfl ?_ | refine Wl.nilF rfl ?_ | refine Wl.add rfl rfl (by omega) (by omega) ?_ | refine Wl.sub rfl rfl (by omega) (by omega) ?_ | refine Wl.mul rfl rfl (by omega) (by omega) ?_ | refine Wl.convI rfl ?_ | (refine Wl.lss rfl rfl (fun _ => ?_) (fun _ => ?_) <;> (first | (exfalso; omega) | (exfalso; contradiction) | skip)) | (refine Wl.leq rfl rfl (fun _ => ?_) (fun _ => ?_) <;> (first | (exfalso; omega) | (exfalso; contradiction) | skip)) | (refine Wl.gtr rfl rfl (fun _ => ?_) (fun _ => ?_) <;> (first | (exfalso; omega) | (exfalso; contradiction) | skip)) | (refine Wl.geq rfl rfl (fun _ => ?_) (fun _ => ?_) <;> (first | (exfalso; omega) | (exfalso; contradiction) | skip)) | (refine Wl.eql rfl rfl (fun _ => ?_) (fun _ => ?_) <;> (first | (exfalso; omega) | (exfalso; contradiction) | skip)) | (refine Wl.neq rfl rfl (fun _ => ?_) (fun _ => ?_) <;> (first | (exfalso; omega) | (exfalso; contradiction) | skip)) | (refine Wl.seql rfl rfl (fun _ => ?_) (fun _ => ?_) <;> (first | (exfalso; omega) | (exfalso; contradiction) | skip)) | (refine Wl.sneq rfl rfl (fun _ => ?_) (fun _ => ?_) <;> (first | (exfalso; omega) | (exfalso; contradiction) | skip))))
    refine Wl.alloc fun w2 b2 n2 s2 => ?_
    refine Wl.storeB (o := 0) (new := evC ev0) b2 rfl rfl rfl rfl (by decide) (evC_one _) fun w3 b3 c3 s3 => ?_
    have n3 : New w1 w3 := Chg.trans n2 c3 fun _ _ e => by omega
    (repeat' (first | refine Wl.moveE (by conv => { lhs; whnf }) ?_ | refine Wl.assignE (by conv => { lhs; whnf }) ?_ | refine Wl.nil ?_ | refine Wl.extract rfl rfl ?_ | refine Wl.guardY rfl rfl ?_ | refine Wl.guardN rfl rfl ?_ | refine Wl.guardU rfl ?_ | refine Wl.pickTE rfl (by conv => { lhs; whnf }) ?_ | refine Wl.pickFE rfl (by conv => { lhs; whnf }) ?_ | refine Wl.notB rfl ?_ | refine Wl.lenS rfl ?_ | refine Wl.lenStr rfl ?_ | refine Wd.seq ?_ | refine Wd.block ?_ | refine Wd.condT rfl ?_ | refine Wd.condF rfl ?_ | refine Qds.normal ?_ | refine Qds.exit ?_ | refine Qds.ret ?_ | refine Qdb.normal ?_ | refine Qdb.ret ?_ | refine Qdb.hit ?_ | refine Qdb.miss rfl ?_ | refine Qdn.e ?_ | refine Wd.region ?_ | refine Wd.skip ?_ | refine Wd.exit ?_ | refine Wd.ret ?_ | refine Wl.nilP rfl ?_ | refine Wl.fieldAddr rfl rfl ?_ | refine Wl.nilF rfl ?_ | refine Wl.add rfl rfl (by omega) (by omega) ?_ | refine Wl.sub rfl rfl (by omega) (by omega) ?_ | refine Wl.mul rfl rfl (by omega) (by omega) ?_ | refine Wl.convI rfl ?_ | (refine Wl.lss rfl rfl (fun _ => ?_) (fun _ => ?_) <;> (first | (exfalso; omega) | (exfalso; contradiction) | skip)) | (refine Wl.leq rfl rfl (fun _ => ?_) (fun _ => ?_) <;> (first | (exfalso; omega) | (exfalso; contradiction) | skip)) | (refine Wl.gtr rfl rfl (fun _ => ?_) (fun _ => ?_) <;> (first | (exfalso; omega) | (exfalso; contradiction) | skip)) | (refine Wl.geq rfl rfl (fun _ => ?_) (fun _ => ?_) <;> (first | (exfalso; omega) | (exfalso; contradiction) | skip)) | (refine Wl.eql rfl rfl (fun _ => ?_) (fun _ => ?_) <;> (first | (exfalso; omega) | (exfalso; contradiction) | skip)) | (refine Wl.neq rfl rfl (fun _ => ?_) (fun _ => ?_) <;> (first | (exfalso; omega) | (exfalso; contradiction) | skip)) | (refine Wl.seql rfl rfl (fun _ => ?_) (fun _ => ?_) <;> (first | (exfalso; omega) | (exfalso; contradiction) | skip)) | (refine Wl.sneq rfl rfl (fun _ => ?_) (fun _ => ?_) <;> (first | (exfalso; omega) | (exfalso; contradiction) | skip))))
    exact Lv.ret (results2 rfl (rvOf_tmp rfl) (rvOf_tmp rfl)) ⟨_, rfl, _, rfl, OwnS.nil, n1.trans n3⟩
  | some x =>
    rw [hg] at hr
    obtain rfl := hr
    have hm : ledM t id = (ledS id t.kept, 0) := by unfold ledM; rw [hg]
    rw [hm]
    (repeat' (first | refine Wl.moveE (by conv => { lhs; whnf }) ?_ | refine Wl.assignE (by conv => { lhs; whnf }) ?_ | refine Wl.nil ?_ | refine Wl.extract rfl rfl ?_ | refine Wl.guardY rfl rfl ?_ | refine Wl.guardN rfl rfl ?_ | refine Wl.guardU rfl ?_ | refine Wl.pickTE rfl (by conv => { lhs; whnf }) ?_ | refine Wl.pickFE rfl (by conv => { lhs; whnf }) ?_ | refine Wl.notB rfl ?_ | refine Wl.lenS rfl ?_ | refine Wl.lenStr rfl ?_ | refine Wd.seq ?_ | refine Wd.block ?_ | refine Wd.condT rfl ?_ | refine Wd.condF rfl ?_ | refine Qds.normal ?_ | refine Qds.exit ?_ | refine Qds.ret ?_ | refine Qdb.normal ?_ | refine Qdb.ret ?_ | refine Qdb.hit ?_ | refine Qdb.miss rfl ?_ | refine Qdn.e ?_ | refine Wd.region ?_ | refine Wd.skip ?_ | refine Wd.exit ?_ | refine Wd.ret ?_ | refine Wl.nilP rfl ?_ | refine Wl.fieldAddr rfl rfl ?_ | refine Wl.nilF rfl ?_ | refine Wl.add rfl rfl (by omega) (by omega) ?_ | refine Wl.sub rfl rfl (by omega) (by omega) ?_ | refine Wl.mul rfl rfl (by omega) (by omega) ?_ | refine Wl.convI rfl ?_ | (refine Wl.lss rfl rfl (fun _ => ?_) (fun _ => ?_) <;> (first | (exfalso; omega) | (exfalso; contradiction) | skip)) | (refine Wl.leq rfl rfl (fun _ => ?_) (fun _ => ?_) <;> (first | (exfalso; omega) | (exfalso; contradiction) | skip)) | (refine Wl.gtr rfl rfl (fun _ => ?_) (fun _ => ?_) <;> (first | (exfalso; omega) | (exfalso; contradiction) | skip)) | (refine Wl.geq rfl rfl (fun _ => ?_) (fun _ => ?_) <;> (first | (exfalso; omega) | (exfalso; contradiction) | skip)) | (refine Wl.eql rfl rfl (fun _ => ?_) (fun _ => ?_) <;> (first | (exfalso; omega) | (exfalso; contradiction) | skip)) | (refine Wl.neq rfl rfl (fun _ => ?_) (fun _ => ?_) <;> (first | (exfalso; omega) | (exfalso; contradiction) | skip)) | (refine Wl.seql rfl rfl (fun _ => ?_) (fun _ => ?_) <;> (first | (exfalso; omega) | (exfalso; contradiction) | skip)) | (refine Wl.sneq rfl rfl (fun _ => ?_) (fun _ => ?_) <;> (first | (exfalso; omega) | (exfalso; contradiction) | skip))))
    refine Wl.alloc fun w2 b2 n2 s2 => ?_
    refine Wl.storeB (o := 0) (new := evC x) b2 rfl rfl rfl rfl (Nat.le_refl 6) (evC_one _) fun w3 b3 c3 s3 => ?_
    have n3 : New w1 w3 := Chg.trans n2 c3 fun _ _ e => by omega
    have z1 := n1.size
    have z3 := n3.size
    clear b2 n2 b3 c3 s2 s3
    (repeat' (first | refine Wl.moveE (by conv => { lhs; whnf }) ?_ | refine Wl.assignE (by conv => { lhs; whnf }) ?_ | refine Wl.nil ?_ | refine Wl.extract rfl rfl ?_ | refine Wl.guardY rfl rfl ?_ | refine Wl.guardN rfl rfl ?_ | refine Wl.guardU rfl ?_ | refine Wl.pickTE rfl (by conv => { lhs; whnf }) ?_ | refine Wl.pickFE rfl (by conv => { lhs; whnf }) ?_ | refine Wl.notB rfl ?_ | refine Wl.lenS rfl ?_ | refine Wl.lenStr rfl ?_ | refine Wd.seq ?_ | refine Wd.block ?_ | refine Wd.condT rfl ?_ | refine Wd.condF rfl ?_ | refine Qds.normal ?_ | refine Qds.exit ?_ | refine Qds.ret ?_ | refine Qdb.normal ?_ | refine Qdb.ret ?_ | refine Qdb.hit ?_ | refine Qdb.miss rfl ?_ | refine Qdn.e ?_ | refine Wd.region ?_ | refine Wd.skip ?_ | refine Wd.exit ?_ | refine Wd.ret ?_ | refine Wl.nilP rfl ?_ | refine Wl.fieldAddr rfl rfl ?_ | refine Wl.nilF rfl ?_ | refine Wl.add rfl rfl (by omega) (by omega) ?_ | refine Wl.sub rfl rfl (by omega) (by omega) ?_ | refine Wl.mul rfl rfl (by omega) (by omega) ?_ | refine Wl.convI rfl ?_ | (refine Wl.lss rfl rfl (fun _ => ?_) (fun _ => ?_) <;> (first | (exfalso; omega) | (exfalso; contradiction) | skip)) | (refine Wl.leq rfl rfl (fun _ => ?_) (fun _ => ?_) <;> (first | (exfalso; omega) | (exfalso; contradiction) | skip)) | (refine Wl.gtr rfl rfl (fun _ => ?_) (fun _ => ?_) <;> (first | (exfalso; omega) | (exfalso; contradiction) | skip)) | (refine Wl.geq rfl rfl (fun _ => ?_) (fun _ => ?_) <;> (first | (exfalso; omega) | (exfalso; contradiction) | skip)) | (refine Wl.eql rfl rfl (fun _ => ?_) (fun _ => ?_) <;> (first | (exfalso; omega) | (exfalso; contradiction) | skip)) | (refine Wl.neq rfl rfl (fun _ => ?_) (fun _ => ?_) <;> (first | (exfalso; omega) | (exfalso; contradiction) | skip)) | (refine Wl.seql rfl rfl (fun _ => ?_) (fun _ => ?_) <;> (first | (exfalso; omega) | (exfalso; contradiction) | skip)) | (refine Wl.sneq rfl rfl (fun _ => ?_) (fun _ => ?_) <;> (first | (exfalso; omega) | (exfalso; contradiction) | skip))))
    refine Wl.makeMap (k := 27) fun w4 m4 n4 s4 => ?_
    (repeat' (first | refine Wl.moveE (by conv => { lhs; whnf }) ?_ | refine Wl.assignE (by conv => { lhs; whnf }) ?_ | refine Wl.nil ?_ | refine Wl.extract rfl rfl ?_ | refine Wl.guardY rfl rfl ?_ | refine Wl.guardN rfl rfl ?_ | refine Wl.guardU rfl ?_ | refine Wl.pickTE rfl (by conv => { lhs; whnf }) ?_ | refine Wl.pickFE rfl (by conv => { lhs; whnf }) ?_ | refine Wl.notB rfl ?_ | refine Wl.lenS rfl ?_ | refine Wl.lenStr rfl ?_ | refine Wd.seq ?_ | refine Wd.block ?_ | refine Wd.condT rfl ?_ | refine Wd.condF rfl ?_ | refine Qds.normal ?_ | refine Qds.exit ?_ | refine Qds.ret ?_ | refine Qdb.normal ?_ | refine Qdb.ret ?_ | refine Qdb.hit ?_ | refine Qdb.miss rfl ?_ | refine Qdn.e ?_ | refine Wd.region ?_ | refine Wd.skip ?_ | refine Wd.exit ?_ | refine Wd.ret ?_ | refine Wl.nilP rfl ?_ | refine Wl.fieldAddr rfl rfl ?_ | refine Wl.nilF rfl ?_ | refine Wl.add rfl rfl (by omega) (by omega) ?_ | refine Wl.sub rfl rfl (by omega) (by omega) ?_ | refine Wl.mul rfl rfl (by omega) (by omega) ?_ | refine Wl.convI rfl ?_ | (refine Wl.lss rfl rfl (fun _ => ?_) (fun _ => ?_) <;> (first | (exfalso; omega) | (exfalso; contradiction) | skip)) | (refine Wl.leq rfl rfl (fun _ => ?_) (fun _ => ?_) <;> (first | (exfalso; omega) | (exfalso; contradiction) | skip)) | (refine Wl.gtr rfl rfl (fun _ => ?_) (fun _ => ?_) <;> (first | (exfalso; omega) | (exfalso; contradiction) | skip)) | (refine Wl.geq rfl rfl (fun _ => ?_) (fun _ => ?_) <;> (first | (exfalso; omega) | (exfalso; contradiction) | skip)) | (refine Wl.eql rfl rfl (fun _ => ?_) (fun _ => ?_) <;> (first | (exfalso; omega) | (exfalso; contradiction) | skip)) | (refine Wl.neq rfl rfl (fun _ => ?_) (fun _ => ?_) <;> (first | (exfalso; omega) | (exfalso; contradiction) | skip)) | (refine Wl.seql rfl rfl (fun _ => ?_) (fun _ => ?_) <;> (first | (exfalso; omega) | (exfalso; contradiction) | skip)) | (refine Wl.sneq rfl rfl (fun _ => ?_) (fun _ => ?_) <;> (first | (exfalso; omega) | (exfalso; contradiction) | skip))))
    refine Wk.Wl.mapIns (key := u64V id) (u := vi 1) kU m4 (keyU hid) (fun p hp => by simp at hp) rfl rfl rfl fun w5 m5 c5 s5 => ?_
    replace m5 : MapL Tryd.prog 27 w5 w3.heap.size (mp [id]) := m5
    (repeat' (first | refine Wl.moveE (by conv => { lhs; whnf }) ?_ | refine Wl.assignE (by conv => { lhs; whnf }) ?_ | refine Wl.nil ?_ | refine Wl.extract rfl rfl ?_ | refine Wl.guardY rfl rfl ?_ | refine Wl.guardN rfl rfl ?_ | refine Wl.guardU rfl ?_ | refine Wl.pickTE rfl (by conv => { lhs; whnf }) ?_ | refine Wl.pickFE rfl (by conv => { lhs; whnf }) ?_ | refine Wl.notB rfl ?_ | refine Wl.lenS rfl ?_ | refine Wl.lenStr rfl ?_ | refine Wd.seq ?_ | refine Wd.block ?_ | refine Wd.condT rfl ?_ | refine Wd.condF rfl ?_ | refine Qds.normal ?_ | refine Qds.exit ?_ | refine Qds.ret ?_ | refine Qdb.normal ?_ | refine Qdb.ret ?_ | refine Qdb.hit ?_ | refine Qdb.miss rfl ?_ | refine Qdn.e ?_ | refine Wd.region ?_ | refine Wd.skip ?_ | refine Wd.exit ?_ | refine Wd.ret ?_ | refine Wl.nilP rfl ?_ | refine Wl.fieldAddr rfl rfl ?_ | refine Wl.nilF rfl ?_ | refine Wl.add rfl rfl (by omega) (by omega) ?_ | refine Wl.sub rfl rfl (by omega) (by omega) ?_ | refine Wl.mul rfl rfl (by omega) (by omega) ?_ | refine Wl.convI rfl ?_ | (refine Wl.lss rfl rfl (fun _ => ?_) (fun _ => ?_) <;> (first | (exfalso; omega) | (exfalso; contradiction) | skip)) | (refine Wl.leq rfl rfl (fun _ => ?_) (fun _ => ?_) <;> (first | (exfalso; omega) | (exfalso; contradiction) | skip)) | (refine Wl.gtr rfl rfl (fun _ => ?_) (fun _ => ?_) <;> (first | (exfalso; omega) | (exfalso; contradiction) | skip)) | (refine Wl.geq rfl rfl (fun _ => ?_) (fun _ => ?_) <;> (first | (exfalso; omega) | (exfalso; contradiction) | skip)) | (refine Wl.eql rfl rfl (fun _ => ?_) (fun _ => ?_) <;> (first | (exfalso; omega) | (exfalso; contradiction) | skip)) | (refine Wl.neq rfl rfl (fun _ => ?_) (fun _ => ?_) <;> (first | (exfalso; omega) | (exfalso; contradiction) | skip)) | (refine Wl.seql rfl rfl (fun _ => ?_) (fun _ => ?_) <;> (first | (exfalso; omega) | (exfalso; contradiction) | skip)) | (refine Wl.sneq rfl rfl (fun _ => ?_) (fun _ => ?_) <;> (first | (exfalso; omega) | (exfalso; contradiction) | skip))))
    refine Wl.alloc fun w6 b6 n6 s6 => ?_
    refine Wl.store1 b6 rfl Nat.zero_lt_one rfl rfl fun w7 b7 c7 => ?_
    replace b7 : Bk w7 w5.heap.size 80 [.map (some w3.heap.size)] := b7
    have n57 : New w5 w7 := Chg.trans n6 c7 fun _ _ e => by omega
    have n35 : New w3 w5 := Chg.trans n4 c5 fun _ _ e => by omega
    have m7 := m5.chg n57 (fun e => e)
    have z5 := n35.size
    have z7 := n57.size
    have e5 := m5.lt
    have e7 := b7.lt
    clear m4 n4 s4 m5 c5 b6 n6 c7
    (repeat' (first | refine Wl.moveE (by conv => { lhs; whnf }) ?_ | refine Wl.assignE (by conv => { lhs; whnf }) ?_ | refine Wl.nil ?_ | refine Wl.extract rfl rfl ?_ | refine Wl.guardY rfl rfl ?_ | refine Wl.guardN rfl rfl ?_ | refine Wl.guardU rfl ?_ | refine Wl.pickTE rfl (by conv => { lhs; whnf }) ?_ | refine Wl.pickFE rfl (by conv => { lhs; whnf }) ?_ | refine Wl.notB rfl ?_ | refine Wl.lenS rfl ?_ | refine Wl.lenStr rfl ?_ | refine Wd.seq ?_ | refine Wd.block ?_ | refine Wd.condT rfl ?_ | refine Wd.condF rfl ?_ | refine Qds.normal ?_ | refine Qds.exit ?_ | refine Qds.ret ?_ | refine Qdb.normal ?_ | refine Qdb.ret ?_ | refine Qdb.hit ?_ | refine Qdb.miss rfl ?_ | refine Qdn.e ?_ | refine Wd.region ?_ | refine Wd.skip ?_ | refine Wd.exit ?_ | refine Wd.ret ?_ | refine Wl.nilP rfl ?_ | refine Wl.fieldAddr rfl rfl ?_ | refine Wl.nilF rfl ?_ | refine Wl.add rfl rfl (by omega) (by omega) ?_ | refine Wl.sub rfl rfl (by omega) (by omega) ?_ | refine Wl.mul rfl rfl (by omega) (by omega) ?_ | refine Wl.convI rfl ?_ | (refine Wl.lss rfl rfl (fun _ => ?_) (fun _ => ?_) <;> (first | (exfalso; omega) | (exfalso; contradiction) | skip)) | (refine Wl.leq rfl rfl (fun _ => ?_) (fun _ => ?_) <;> (first | (exfalso; omega) | (exfalso; contradiction) | skip)) | (refine Wl.gtr rfl rfl (fun _ => ?_) (fun _ => ?_) <;> (first | (exfalso; omega) | (exfalso; contradiction) | skip)) | (refine Wl.geq rfl rfl (fun _ => ?_) (fun _ => ?_) <;> (first | (exfalso; omega) | (exfalso; contradiction) | skip)) | (refine Wl.eql rfl rfl (fun _ => ?_) (fun _ => ?_) <;> (first | (exfalso; omega) | (exfalso; contradiction) | skip)) | (refine Wl.neq rfl rfl (fun _ => ?_) (fun _ => ?_) <;> (first | (exfalso; omega) | (exfalso; contradiction) | skip)) | (refine Wl.seql rfl rfl (fun _ => ?_) (fun _ => ?_) <;> (first | (exfalso; omega) | (exfalso; contradiction) | skip)) | (refine Wl.sneq rfl rfl (fun _ => ?_) (fun _ => ?_) <;> (first | (exfalso; omega) | (exfalso; contradiction) | skip))))
    refine Wl.alloc fun w8 b8 n8 s8 => ?_
    replace b8 : Bk w8 w7.heap.size 44 [.slice none 0 0] := b8
    (repeat' (first | refine Wl.moveE (by conv => { lhs; whnf }) ?_ | refine Wl.assignE (by conv => { lhs; whnf }) ?_ | refine Wl.nil ?_ | refine Wl.extract rfl rfl ?_ | refine Wl.guardY rfl rfl ?_ | refine Wl.guardN rfl rfl ?_ | refine Wl.guardU rfl ?_ | refine Wl.pickTE rfl (by conv => { lhs; whnf }) ?_ | refine Wl.pickFE rfl (by conv => { lhs; whnf }) ?_ | refine Wl.notB rfl ?_ | refine Wl.lenS rfl ?_ | refine Wl.lenStr rfl ?_ | refine Wd.seq ?_ | refine Wd.block ?_ | refine Wd.condT rfl ?_ | refine Wd.condF rfl ?_ | refine Qds.normal ?_ | refine Qds.exit ?_ | refine Qds.ret ?_ | refine Qdb.normal ?_ | refine Qdb.ret ?_ | refine Qdb.hit ?_ | refine Qdb.miss rfl ?_ | refine Qdn.e ?_ | refine Wd.region ?_ | refine Wd.skip ?_ | refine Wd.exit ?_ | refine Wd.ret ?_ | refine Wl.nilP rfl ?_ | refine Wl.fieldAddr rfl rfl ?_ | refine Wl.nilF rfl ?_ | refine Wl.add rfl rfl (by omega) (by omega) ?_ | refine Wl.sub rfl rfl (by omega) (by omega) ?_ | refine Wl.mul rfl rfl (by omega) (by omega) ?_ | refine Wl.convI rfl ?_ | (refine Wl.lss rfl rfl (fun _ => ?_) (fun _ => ?_) <;> (first | (exfalso; omega) | (exfalso; contradiction) | skip)) | (refine Wl.leq rfl rfl (fun _ => ?_) (fun _ => ?_) <;> (first | (exfalso; omega) | (exfalso; contradiction) | skip)) | (refine Wl.gtr rfl rfl (fun _ => ?_) (fun _ => ?_) <;> (first | (exfalso; omega) | (exfalso; contradiction) | skip)) | (refine Wl.geq rfl rfl (fun _ => ?_) (fun _ => ?_) <;> (first | (exfalso; omega) | (exfalso; contradiction) | skip)) | (refine Wl.eql rfl rfl (fun _ => ?_) (fun _ => ?_) <;> (first | (exfalso; omega) | (exfalso; contradiction) | skip)) | (refine Wl.neq rfl rfl (fun _ => ?_) (fun _ => ?_) <;> (first | (exfalso; omega) | (exfalso; contradiction) | skip)) | (refine Wl.seql rfl rfl (fun _ => ?_) (fun _ => ?_) <;> (first | (exfalso; omega) | (exfalso; contradiction) | skip)) | (refine Wl.sneq rfl rfl (fun _ => ?_) (fun _ => ?_) <;> (first | (exfalso; omega) | (exfalso; contradiction) | skip))))
    have n08 := ((n1.trans n3).trans (n35.trans n57)).trans n8
    refine Wl.call (Each_spec (h.new n08)) rfl ?_
    intro f w9 hh
    obtain ⟨⟨bs, sv, rfl, hbs, hb9, hr9⟩, n9⟩ := hh
    have z9 := n9.size
    have n09 := n08.trans n9
    have m9 := (m7.chg n8 (fun e => e)).chg n9 (fun e => e)
    have b9 := (b7.chg n8 (fun e => e)).chg n9 (fun e => e)
    have o9 := b8.chg n9 (fun e => e)
    have e9 := hb9.lt
    have q9 : SqR (fun k => w8.heap.size ≤ k ∧ k < w9.heap.size) bs sv t.kept w9 := ⟨hb9, hr9.mono (mono_flat _) fun k hk e => ⟨e, hk⟩⟩
    clear hb9 hr9 b8 b7 m7 n8 n57 n35 n3 n9
    let I : Nat → World → Prop := fun k W => New w W ∧ w9.heap.size ≤ W.heap.size ∧ SqR (fun k => w8.heap.size ≤ k ∧ k < w9.heap.size) bs sv t.kept W ∧ MapL Tryd.prog 27 W w3.heap.size (mp (id :: ledS id (t.kept.take k))) ∧ Bk W w5.heap.size 80 [.map (some w3.heap.size)] ∧
      ∃ u, Bk W w7.heap.size 44 [u] ∧ OwnS (one u64V) 27 1 (fun j => w9.heap.size ≤ j) No W u (ledS id (t.kept.take k))
    (repeat' (first | refine Wl.moveE (by conv => { lhs; whnf }) ?_ | refine Wl.assignE (by conv => { lhs; whnf }) ?_ | refine Wl.nil ?_ | refine Wl.extract rfl rfl ?_ | refine Wl.guardY rfl rfl ?_ | refine Wl.guardN rfl rfl ?_ | refine Wl.guardU rfl ?_ | refine Wl.pickTE rfl (by conv => { lhs; whnf }) ?_ | refine Wl.pickFE rfl (by conv => { lhs; whnf }) ?_ | refine Wl.notB rfl ?_ | refine Wl.lenS rfl ?_ | refine Wl.lenStr rfl ?_ | refine Wd.seq ?_ | refine Wd.block ?_ | refine Wd.condT rfl ?_ | refine Wd.condF rfl ?_ | refine Qds.normal ?_ | refine Qds.exit ?_ | refine Qds.ret ?_ | refine Qdb.normal ?_ | refine Qdb.ret ?_ | refine Qdb.hit ?_ | refine Qdb.miss rfl ?_ | refine Qdn.e ?_ | refine Wd.region ?_ | refine Wd.skip ?_ | refine Wd.exit ?_ | refine Wd.ret ?_ | refine Wl.nilP rfl ?_ | refine Wl.fieldAddr rfl rfl ?_ | refine Wl.nilF rfl ?_ | refine Wl.add rfl rfl (by omega) (by omega) ?_ | refine Wl.sub rfl rfl (by omega) (by omega) ?_ | refine Wl.mul rfl rfl (by omega) (by omega) ?_ | refine Wl.convI rfl ?_ | (refine Wl.lss rfl rfl (fun _ => ?_) (fun _ => ?_) <;> (first | (exfalso; omega) | (exfalso; contradiction) | skip)) | (refine Wl.leq rfl rfl (fun _ => ?_) (fun _ => ?_) <;> (first | (exfalso; omega) | (exfalso; contradiction) | skip)) | (refine Wl.gtr rfl rfl (fun _ => ?_) (fun _ => ?_) <;> (first | (exfalso; omega) | (exfalso; contradiction) | skip)) | (refine Wl.geq rfl rfl (fun _ => ?_) (fun _ => ?_) <;> (first | (exfalso; omega) | (exfalso; contradiction) | skip)) | (refine Wl.eql rfl rfl (fun _ => ?_) (fun _ => ?_) <;> (first | (exfalso; omega) | (exfalso; contradiction) | skip)) | (refine Wl.neq rfl rfl (fun _ => ?_) (fun _ => ?_) <;> (first | (exfalso; omega) | (exfalso; contradiction) | skip)) | (refine Wl.seql rfl rfl (fun _ => ?_) (fun _ => ?_) <;> (first | (exfalso; omega) | (exfalso; contradiction) | skip)) | (refine Wl.sneq rfl rfl (fun _ => ?_) (fun _ => ?_) <;> (first | (exfalso; omega) | (exfalso; contradiction) | skip))))
    refine Wd.range (gf := 55) (lb := #[pT bs]) rfl (fun args _ => run_callFunc inferInstance args) (iter_values (Pb := fun k => w8.heap.size ≤ k ∧ k < w9.heap.size) (bs := bs) (v := sv) (l := t.kept)) I (fun _ _ => False) ?_ ?_ ?_ ?_ ?_ ?_ ?_ ?_ ?_
    · exact fun k W h => h.2.2.1
    · rintro k W W' ⟨h1, h2, h3, h4, h5, u, h6, h7⟩ n
      exact ⟨h1.trans n, Nat.le_trans h2 n.size, h3.new n, h4.chg n (fun e => e), h5.chg n (fun e => e), u, h6.chg n (fun e => e), h7.new (plain_one _) n⟩
    · rintro k W r r' ⟨h1, h2, h3, h4, h5, u, h6, h7⟩ hL
      exact ⟨h1.put _ (by omega), by simpa using h2, h3.put _ (.loop hL) (by omega), h4.put _ (by omega), h5.put _ (.loop hL), u, h6.put _ (.loop hL), h7.put _ (plain_one _) (.loop hL)⟩
    · exact fun _ _ _ _ h => h.elim
    · intro r
      have n := Chg.loop (w := w9) (.deferred (some [])) (.loop r)
      exact ⟨n09.trans n, n.size, q9.new n, m9.chg n (fun e => e), b9.chg n (fun e => e), _, o9.chg n (fun e => e), OwnS.nil⟩
    · rintro k W r hk ⟨h1, h2, h3, h4, h5, u, h6, h7⟩ hL hD
      obtain ⟨y, hy⟩ := get_lt t.kept hk
      have hyw := (hok.ok y (List.mem_of_getElem? hy)).1
      have hyid := hok.ids k y hy
      have hyca := hok.cas y (List.mem_of_getElem? hy)
      obtain ⟨hinv, hilen⟩ := ledS_inv hok id k (by omega)
      have hk4 := hok.len
      have hs4 := hok.s1
      show Wr _ _ _ _ _ (upd _ 25 (evV (t.kept.getD k ev0))) W
      rw [getD_of hy]
      (repeat' (first | refine Wl.moveE (by conv => { lhs; whnf }) ?_ | refine Wl.assignE (by conv => { lhs; whnf }) ?_ | refine Wl.nil ?_ | refine Wl.extract rfl rfl ?_ | refine Wl.guardY rfl rfl ?_ | refine Wl.guardN rfl rfl ?_ | refine Wl.guardU rfl ?_ | refine Wl.pickTE rfl (by conv => { lhs; whnf }) ?_ | refine Wl.pickFE rfl (by conv => { lhs; whnf }) ?_ | refine Wl.notB rfl ?_ | refine Wl.lenS rfl ?_ | refine Wl.lenStr rfl ?_ | refine Qsr.normal ?_ | refine Wr.seq ?_ | refine Wr.region rfl (by repeat' (first | exact Qfn.out (by rintro _ ⟨⟨_, e⟩, _⟩; cases e) | exact Qrd.out | exact Qas.out | refine Qsr.out ?_ | refine Qloop.out ?_ | refine Qsc.out ?_ | refine Qblk.out ?_)) ?_ | refine Wr.block ?_ | refine Wr.skip ?_ | refine Wr.exit ?_ | refine Wr.ret ?_ | refine Qsr.exit ?_ | refine Qsr.ret ?_ | refine Qblk.normal ?_ | refine Qblk.ret ?_ | refine Qblk.hit ?_ | refine Qblk.miss rfl ?_ | refine Wr.scope ?_ | refine Wr.label ?_ | refine Qsc.normal ?_ | refine Qsc.exit ?_ | refine Qsc.ret ?_ | refine Qloop.exit ?_ | refine Qloop.ret ?_ | refine Wr.condT rfl ?_ | refine Wr.condF rfl ?_ | refine Wl.nilP rfl ?_ | refine Wl.fieldAddr rfl rfl ?_ | refine Wl.nilF rfl ?_ | refine Wl.add rfl rfl (by omega) (by omega) ?_ | refine Wl.sub rfl rfl (by omega) (by omega) ?_ | refine Wl.mul rfl rfl (by omega) (by omega) ?_ | refine Wl.convI rfl ?_ | (refine Wl.lss rfl rfl (fun _ => ?_) (fun _ => ?_) <;> (first | (exfalso; omega) | (exfalso; contradiction) | skip)) | (refine Wl.leq rfl rfl (fun _ => ?_) (fun _ => ?_) <;> (first | (exfalso; omega) | (exfalso; contradiction) | skip)) | (refine Wl.gtr rfl rfl (fun _ => ?_) (fun _ => ?_) <;> (first | (exfalso; omega) | (exfalso; contradiction) | skip)) | (refine Wl.geq rfl rfl (fun _ => ?_) (fun _ => ?_) <;> (first | (exfalso; omega) | (exfalso; contradiction) | skip)) | (refine Wl.eql rfl rfl (fun _ => ?_) (fun _ => ?_) <;> (first | (exfalso; omega) | (exfalso; contradiction) | skip)) | (refine Wl.neq rfl rfl (fun _ => ?_) (fun _ => ?_) <;> (first | (exfalso; omega) | (exfalso; contradiction) | skip)) | (refine Wl.seql rfl rfl (fun _ => ?_) (fun _ => ?_) <;> (first | (exfalso; omega) | (exfalso; contradiction) | skip)) | (refine Wl.sneq rfl rfl (fun _ => ?_) (fun _ => ?_) <;> (first | (exfalso; omega) | (exfalso; contradiction) | skip))))
      refine Wl.alloc fun W1 c1 m1 t1 => ?_
      refine Wl.storeB (o := 0) (new := evC y) c1 rfl rfl rfl rfl (Nat.le_refl 6) (evC_one _) fun W2 c2 m2 t2 => ?_
      replace c2 : Bk W2 W.heap.size 36 (evC y) := c2
      have m02 : New W W2 := Chg.trans m1 m2 fun _ _ e => by omega
      (repeat' (first | refine Wl.moveE (by conv => { lhs; whnf }) ?_ | refine Wl.assignE (by conv => { lhs; whnf }) ?_ | refine Wl.nil ?_ | refine Wl.extract rfl rfl ?_ | refine Wl.guardY rfl rfl ?_ | refine Wl.guardN rfl rfl ?_ | refine Wl.guardU rfl ?_ | refine Wl.pickTE rfl (by conv => { lhs; whnf }) ?_ | refine Wl.pickFE rfl (by conv => { lhs; whnf }) ?_ | refine Wl.notB rfl ?_ | refine Wl.lenS rfl ?_ | refine Wl.lenStr rfl ?_ | refine Qsr.normal ?_ | refine Wr.seq ?_ | refine Wr.region rfl (by repeat' (first | exact Qfn.out (by rintro _ ⟨⟨_, e⟩, _⟩; cases e) | exact Qrd.out | exact Qas.out | refine Qsr.out ?_ | refine Qloop.out ?_ | refine Qsc.out ?_ | refine Qblk.out ?_)) ?_ | refine Wr.block ?_ | refine Wr.skip ?_ | refine Wr.exit ?_ | refine Wr.ret ?_ | refine Qsr.exit ?_ | refine Qsr.ret ?_ | refine Qblk.normal ?_ | refine Qblk.ret ?_ | refine Qblk.hit ?_ | refine Qblk.miss rfl ?_ | refine Wr.scope ?_ | refine Wr.label ?_ | refine Qsc.normal ?_ | refine Qsc.exit ?_ | refine Qsc.ret ?_ | refine Qloop.exit ?_ | refine Qloop.ret ?_ | refine Wr.condT rfl ?_ | refine Wr.condF rfl ?_ | refine Wl.nilP rfl ?_ | refine Wl.fieldAddr rfl rfl ?_ | refine Wl.nilF rfl ?_ | refine Wl.add rfl rfl (by omega) (by omega) ?_ | refine Wl.sub rfl rfl (by omega) (by omega) ?_ | refine Wl.mul rfl rfl (by omega) (by omega) ?_ | refine Wl.convI rfl ?_ | (refine Wl.lss rfl rfl (fun _ => ?_) (fun _ => ?_) <;> (first | (exfalso; omega) | (exfalso; contradiction) | skip)) | (refine Wl.leq rfl rfl (fun _ => ?_) (fun _ => ?_) <;> (first | (exfalso; omega) | (exfalso; contradiction) | skip)) | (refine Wl.gtr rfl rfl (fun _ => ?_) (fun _ => ?_) <;> (first | (exfalso; omega) | (exfalso; contradiction) | skip)) | (refine Wl.geq rfl rfl (fun _ => ?_) (fun _ => ?_) <;> (first | (exfalso; omega) | (exfalso; contradiction) | skip)) | (refine Wl.eql rfl rfl (fun _ => ?_) (fun _ => ?_) <;> (first | (exfalso; omega) | (exfalso; contradiction) | skip)) | (refine Wl.neq rfl rfl (fun _ => ?_) (fun _ => ?_) <;> (first | (exfalso; omega) | (exfalso; contradiction) | skip)) | (refine Wl.seql rfl rfl (fun _ => ?_) (fun _ => ?_) <;> (first | (exfalso; omega) | (exfalso; contradiction) | skip)) | (refine Wl.sneq rfl rfl (fun _ => ?_) (fun _ => ?_) <;> (first | (exfalso; omega) | (exfalso; contradiction) | skip))))
      refine ⟨m02, fun r' => ?_⟩
      have hL2 := (m02.block _ (NoC.loop hL).lt fun e => e).trans hL
      have hD2 := (m02.block _ (NoC.mark hD).lt fun e => e).trans hD
      have hLt := (NoC.loop hL2).lt
      have q1 : New w (W2.putObj (w9.heap.size + 1) (.loop r')) := (h1.trans m02).put _ (by omega)
      have q3 := (h3.new m02).put (.loop r') (.loop hL2) (by omega)
      have q4 := (h4.chg m02 (fun e => e)).put (.loop r') (show w9.heap.size + 1 ≠ w3.heap.size by omega)
      have q5 := (h5.chg m02 (fun e => e)).put (.loop r') (.loop hL2)
      have q6 := (h6.chg m02 (fun e => e)).put (.loop r') (.loop hL2)
      have q7 := (h7.new (plain_one _) m02).put (.loop r') (plain_one _) (.loop hL2)
      have q8 := c2.put (.loop r') (.loop hL2)
      have qL : NoC (W2.putObj (w9.heap.size + 1) (.loop r')) (w9.heap.size + 1) := .loop (World.putObj_heap_same hLt)
      have qD : NoC (W2.putObj (w9.heap.size + 1) (.loop r')) w9.heap.size := .mark ((World.putObj_heap_other (by omega)).trans hD2)
      have hu1 : ∀ j, u.ownBlock = some j → w9.heap.size ≤ j ∧ j < W.heap.size := fun j e => h7.lt e
      generalize W2.putObj (w9.heap.size + 1) (.loop r') = W3 at *
      clear m1 m2 c1 c2 h1 h3 h4 h5 h6 h7 m02 hL hD hL2 hD2
      have zL := qL.lt
      have z8 := q8.lt
      (repeat' (first | refine Wl.moveE (by conv => { lhs; whnf }) ?_ | refine Wl.assignE (by conv => { lhs; whnf }) ?_ | refine Wl.nil ?_ | refine Wl.extract rfl rfl ?_ | refine Wl.guardY rfl rfl ?_ | refine Wl.guardN rfl rfl ?_ | refine Wl.guardU rfl ?_ | refine Wl.pickTE rfl (by conv => { lhs; whnf }) ?_ | refine Wl.pickFE rfl (by conv => { lhs; whnf }) ?_ | refine Wl.notB rfl ?_ | refine Wl.lenS rfl ?_ | refine Wl.lenStr rfl ?_ | refine Qsr.normal ?_ | refine Wr.seq ?_ | refine Wr.region rfl (by repeat' (first | exact Qfn.out (by rintro _ ⟨⟨_, e⟩, _⟩; cases e) | exact Qrd.out | exact Qas.out | refine Qsr.out ?_ | refine Qloop.out ?_ | refine Qsc.out ?_ | refine Qblk.out ?_)) ?_ | refine Wr.block ?_ | refine Wr.skip ?_ | refine Wr.exit ?_ | refine Wr.ret ?_ | refine Qsr.exit ?_ | refine Qsr.ret ?_ | refine Qblk.normal ?_ | refine Qblk.ret ?_ | refine Qblk.hit ?_ | refine Qblk.miss rfl ?_ | refine Wr.scope ?_ | refine Wr.label ?_ | refine Qsc.normal ?_ | refine Qsc.exit ?_ | refine Qsc.ret ?_ | refine Qloop.exit ?_ | refine Qloop.ret ?_ | refine Wr.condT rfl ?_ | refine Wr.condF rfl ?_ | refine Wl.nilP rfl ?_ | refine Wl.fieldAddr rfl rfl ?_ | refine Wl.nilF rfl ?_ | refine Wl.add rfl rfl (by omega) (by omega) ?_ | refine Wl.sub rfl rfl (by omega) (by omega) ?_ | refine Wl.mul rfl rfl (by omega) (by omega) ?_ | refine Wl.convI rfl ?_ | (refine Wl.lss rfl rfl (fun _ => ?_) (fun _ => ?_) <;> (first | (exfalso; omega) | (exfalso; contradiction) | skip)) | (refine Wl.leq rfl rfl (fun _ => ?_) (fun _ => ?_) <;> (first | (exfalso; omega) | (exfalso; contradiction) | skip)) | (refine Wl.gtr rfl rfl (fun _ => ?_) (fun _ => ?_) <;> (first | (exfalso; omega) | (exfalso; contradiction) | skip)) | (refine Wl.geq rfl rfl (fun _ => ?_) (fun _ => ?_) <;> (first | (exfalso; omega) | (exfalso; contradiction) | skip)) | (refine Wl.eql rfl rfl (fun _ => ?_) (fun _ => ?_) <;> (first | (exfalso; omega) | (exfalso; contradiction) | skip)) | (refine Wl.neq rfl rfl (fun _ => ?_) (fun _ => ?_) <;> (first | (exfalso; omega) | (exfalso; contradiction) | skip)) | (refine Wl.seql rfl rfl (fun _ => ?_) (fun _ => ?_) <;> (first | (exfalso; omega) | (exfalso; contradiction) | skip)) | (refine Wl.sneq rfl rfl (fun _ => ?_) (fun _ => ?_) <;> (first | (exfalso; omega) | (exfalso; contradiction) | skip))))
      refine Wl.load1 rfl (q5.cell (o := 0) rfl) ?_
      (repeat' (first | refine Wl.moveE (by conv => { lhs; whnf }) ?_ | refine Wl.assignE (by conv => { lhs; whnf }) ?_ | refine Wl.nil ?_ | refine Wl.extract rfl rfl ?_ | refine Wl.guardY rfl rfl ?_ | refine Wl.guardN rfl rfl ?_ | refine Wl.guardU rfl ?_ | refine Wl.pickTE rfl (by conv => { lhs; whnf }) ?_ | refine Wl.pickFE rfl (by conv => { lhs; whnf }) ?_ | refine Wl.notB rfl ?_ | refine Wl.lenS rfl ?_ | refine Wl.lenStr rfl ?_ | refine Qsr.normal ?_ | refine Wr.seq ?_ | refine Wr.region rfl (by repeat' (first | exact Qfn.out (by rintro _ ⟨⟨_, e⟩, _⟩; cases e) | exact Qrd.out | exact Qas.out | refine Qsr.out ?_ | refine Qloop.out ?_ | refine Qsc.out ?_ | refine Qblk.out ?_)) ?_ | refine Wr.block ?_ | refine Wr.skip ?_ | refine Wr.exit ?_ | refine Wr.ret ?_ | refine Qsr.exit ?_ | refine Qsr.ret ?_ | refine Qblk.normal ?_ | refine Qblk.ret ?_ | refine Qblk.hit ?_ | refine Qblk.miss rfl ?_ | refine Wr.scope ?_ | refine Wr.label ?_ | refine Qsc.normal ?_ | refine Qsc.exit ?_ | refine Qsc.ret ?_ | refine Qloop.exit ?_ | refine Qloop.ret ?_ | refine Wr.condT rfl ?_ | refine Wr.condF rfl ?_ | refine Wl.nilP rfl ?_ | refine Wl.fieldAddr rfl rfl ?_ | refine Wl.nilF rfl ?_ | refine Wl.add rfl rfl (by omega) (by omega) ?_ | refine Wl.sub rfl rfl (by omega) (by omega) ?_ | refine Wl.mul rfl rfl (by omega) (by omega) ?_ | refine Wl.convI rfl ?_ | (refine Wl.lss rfl rfl (fun _ => ?_) (fun _ => ?_) <;> (first | (exfalso; omega) | (exfalso; contradiction) | skip)) | (refine Wl.leq rfl rfl (fun _ => ?_) (fun _ => ?_) <;> (first | (exfalso; omega) | (exfalso; contradiction) | skip)) | (refine Wl.gtr rfl rfl (fun _ => ?_) (fun _ => ?_) <;> (first | (exfalso; omega) | (exfalso; contradiction) | skip)) | (refine Wl.geq rfl rfl (fun _ => ?_) (fun _ => ?_) <;> (first | (exfalso; omega) | (exfalso; contradiction) | skip)) | (refine Wl.eql rfl rfl (fun _ => ?_) (fun _ => ?_) <;> (first | (exfalso; omega) | (exfalso; contradiction) | skip)) | (refine Wl.neq rfl rfl (fun _ => ?_) (fun _ => ?_) <;> (first | (exfalso; omega) | (exfalso; contradiction) | skip)) | (refine Wl.seql rfl rfl (fun _ => ?_) (fun _ => ?_) <;> (first | (exfalso; omega) | (exfalso; contradiction) | skip)) | (refine Wl.sneq rfl rfl (fun _ => ?_) (fun _ => ?_) <;> (first | (exfalso; omega) | (exfalso; contradiction) | skip))))
      refine Wl.load1 rfl (q8.cell (o := 1) rfl) ?_
      refine Wl.lookup (key := u64V y.ca) kU q4 (keyU hyw.ca) rfl rfl fun r hr => ?_
      rcases mp_in hr with ⟨hin, rfl⟩ | ⟨hin, rfl⟩
      · have hout : ledS id (t.kept.take (k + 1)) = ledS id (t.kept.take k) ++ [y.id] := by rw [ledS_snoc hy, if_pos (List.contains_iff_mem.2 hin)]
        have hnew : y.id ∉ id :: ledS id (t.kept.take k) := by
          intro e
          rcases List.mem_cons.1 hin with e1 | e1
          · rcases List.mem_cons.1 e with e2 | e2
            · omega
            · have := hinv _ e2; omega
          · have h1 := hinv _ e1
            rcases List.mem_cons.1 e with e2 | e2
            · omega
            · have := hinv _ e2; omega
        (repeat' (first | refine Wl.moveE (by conv => { lhs; whnf }) ?_ | refine Wl.assignE (by conv => { lhs; whnf }) ?_ | refine Wl.nil ?_ | refine Wl.extract rfl rfl ?_ | refine Wl.guardY rfl rfl ?_ | refine Wl.guardN rfl rfl ?_ | refine Wl.guardU rfl ?_ | refine Wl.pickTE rfl (by conv => { lhs; whnf }) ?_ | refine Wl.pickFE rfl (by conv => { lhs; whnf }) ?_ | refine Wl.notB rfl ?_ | refine Wl.lenS rfl ?_ | refine Wl.lenStr rfl ?_ | refine Qsr.normal ?_ | refine Wr.seq ?_ | refine Wr.region rfl (by repeat' (first | exact Qfn.out (by rintro _ ⟨⟨_, e⟩, _⟩; cases e) | exact Qrd.out | exact Qas.out | refine Qsr.out ?_ | refine Qloop.out ?_ | refine Qsc.out ?_ | refine Qblk.out ?_)) ?_ | refine Wr.block ?_ | refine Wr.skip ?_ | refine Wr.exit ?_ | refine Wr.ret ?_ | refine Qsr.exit ?_ | refine Qsr.ret ?_ | refine Qblk.normal ?_ | refine Qblk.ret ?_ | refine Qblk.hit ?_ | refine Qblk.miss rfl ?_ | refine Wr.scope ?_ | refine Wr.label ?_ | refine Qsc.normal ?_ | refine Qsc.exit ?_ | refine Qsc.ret ?_ | refine Qloop.exit ?_ | refine Qloop.ret ?_ | refine Wr.condT rfl ?_ | refine Wr.condF rfl ?_ | refine Wl.nilP rfl ?_ | refine Wl.fieldAddr rfl rfl ?_ | refine Wl.nilF rfl ?_ | refine Wl.add rfl rfl (by omega) (by omega) ?_ | refine Wl.sub rfl rfl (by omega) (by omega) ?_ | refine Wl.mul rfl rfl (by omega) (by omega) ?_ | refine Wl.convI rfl ?_ | (refine Wl.lss rfl rfl (fun _ => ?_) (fun _ => ?_) <;> (first | (exfalso; omega) | (exfalso; contradiction) | skip)) | (refine Wl.leq rfl rfl (fun _ => ?_) (fun _ => ?_) <;> (first | (exfalso; omega) | (exfalso; contradiction) | skip)) | (refine Wl.gtr rfl rfl (fun _ => ?_) (fun _ => ?_) <;> (first | (exfalso; omega) | (exfalso; contradiction) | skip)) | (refine Wl.geq rfl rfl (fun _ => ?_) (fun _ => ?_) <;> (first | (exfalso; omega) | (exfalso; contradiction) | skip)) | (refine Wl.eql rfl rfl (fun _ => ?_) (fun _ => ?_) <;> (first | (exfalso; omega) | (exfalso; contradiction) | skip)) | (refine Wl.neq rfl rfl (fun _ => ?_) (fun _ => ?_) <;> (first | (exfalso; omega) | (exfalso; contradiction) | skip)) | (refine Wl.seql rfl rfl (fun _ => ?_) (fun _ => ?_) <;> (first | (exfalso; omega) | (exfalso; contradiction) | skip)) | (refine Wl.sneq rfl rfl (fun _ => ?_) (fun _ => ?_) <;> (first | (exfalso; omega) | (exfalso; contradiction) | skip))))
        refine Wl.load1 rfl (q5.cell (o := 0) rfl) ?_
        (repeat' (first | refine Wl.moveE (by conv => { lhs; whnf }) ?_ | refine Wl.assignE (by conv => { lhs; whnf }) ?_ | refine Wl.nil ?_ | refine Wl.extract rfl rfl ?_ | refine Wl.guardY rfl rfl ?_ | refine Wl.guardN rfl rfl ?_ | refine Wl.guardU rfl ?_ | refine Wl.pickTE rfl (by conv => { lhs; whnf }) ?_ | refine Wl.pickFE rfl (by conv => { lhs; whnf }) ?_ | refine Wl.notB rfl ?_ | refine Wl.lenS rfl ?_ | refine Wl.lenStr rfl ?_ | refine Qsr.normal ?_ | refine Wr.seq ?_ | refine Wr.region rfl (by repeat' (first | exact Qfn.out (by rintro _ ⟨⟨_, e⟩, _⟩; cases e) | exact Qrd.out | exact Qas.out | refine Qsr.out ?_ | refine Qloop.out ?_ | refine Qsc.out ?_ | refine Qblk.out ?_)) ?_ | refine Wr.block ?_ | refine Wr.skip ?_ | refine Wr.exit ?_ | refine Wr.ret ?_ | refine Qsr.exit ?_ | refine Qsr.ret ?_ | refine Qblk.normal ?_ | refine Qblk.ret ?_ | refine Qblk.hit ?_ | refine Qblk.miss rfl ?_ | refine Wr.scope ?_ | refine Wr.label ?_ | refine Qsc.normal ?_ | refine Qsc.exit ?_ | refine Qsc.ret ?_ | refine Qloop.exit ?_ | refine Qloop.ret ?_ | refine Wr.condT rfl ?_ | refine Wr.condF rfl ?_ | refine Wl.nilP rfl ?_ | refine Wl.fieldAddr rfl rfl ?_ | refine Wl.nilF rfl ?_ | refine Wl.add rfl rfl (by omega) (by omega) ?_ | refine Wl.sub rfl rfl (by omega) (by omega) ?_ | refine Wl.mul rfl rfl (by omega) (by omega) ?_ | refine Wl.convI rfl ?_ | (refine Wl.lss rfl rfl (fun _ => ?_) (fun _ => ?_) <;> (first | (exfalso; omega) | (exfalso; contradiction) | skip)) | (refine Wl.leq rfl rfl (fun _ => ?_) (fun _ => ?_) <;> (first | (exfalso; omega) | (exfalso; contradiction) | skip)) | (refine Wl.gtr rfl rfl (fun _ => ?_) (fun _ => ?_) <;> (first | (exfalso; omega) | (exfalso; contradiction) | skip)) | (refine Wl.geq rfl rfl (fun _ => ?_) (fun _ => ?_) <;> (first | (exfalso; omega) | (exfalso; contradiction) | skip)) | (refine Wl.eql rfl rfl (fun _ => ?_) (fun _ => ?_) <;> (first | (exfalso; omega) | (exfalso; contradiction) | skip)) | (refine Wl.neq rfl rfl (fun _ => ?_) (fun _ => ?_) <;> (first | (exfalso; omega) | (exfalso; contradiction) | skip)) | (refine Wl.seql rfl rfl (fun _ => ?_) (fun _ => ?_) <;> (first | (exfalso; omega) | (exfalso; contradiction) | skip)) | (refine Wl.sneq rfl rfl (fun _ => ?_) (fun _ => ?_) <;> (first | (exfalso; omega) | (exfalso; contradiction) | skip))))
        refine Wl.load1 rfl (q8.cell (o := 0) rfl) ?_
        refine Wl.lookup (key := u64V y.id) kU q4 (keyU hyw.id) rfl rfl fun r hr => ?_
        rcases mp_in hr with ⟨h', _⟩ | ⟨_, rfl⟩
        · exact absurd h' hnew
        (repeat' (first | refine Wl.moveE (by conv => { lhs; whnf }) ?_ | refine Wl.assignE (by conv => { lhs; whnf }) ?_ | refine Wl.nil ?_ | refine Wl.extract rfl rfl ?_ | refine Wl.guardY rfl rfl ?_ | refine Wl.guardN rfl rfl ?_ | refine Wl.guardU rfl ?_ | refine Wl.pickTE rfl (by conv => { lhs; whnf }) ?_ | refine Wl.pickFE rfl (by conv => { lhs; whnf }) ?_ | refine Wl.notB rfl ?_ | refine Wl.lenS rfl ?_ | refine Wl.lenStr rfl ?_ | refine Qsr.normal ?_ | refine Wr.seq ?_ | refine Wr.region rfl (by repeat' (first | exact Qfn.out (by rintro _ ⟨⟨_, e⟩, _⟩; cases e) | exact Qrd.out | exact Qas.out | refine Qsr.out ?_ | refine Qloop.out ?_ | refine Qsc.out ?_ | refine Qblk.out ?_)) ?_ | refine Wr.block ?_ | refine Wr.skip ?_ | refine Wr.exit ?_ | refine Wr.ret ?_ | refine Qsr.exit ?_ | refine Qsr.ret ?_ | refine Qblk.normal ?_ | refine Qblk.ret ?_ | refine Qblk.hit ?_ | refine Qblk.miss rfl ?_ | refine Wr.scope ?_ | refine Wr.label ?_ | refine Qsc.normal ?_ | refine Qsc.exit ?_ | refine Qsc.ret ?_ | refine Qloop.exit ?_ | refine Qloop.ret ?_ | refine Wr.condT rfl ?_ | refine Wr.condF rfl ?_ | refine Wl.nilP rfl ?_ | refine Wl.fieldAddr rfl rfl ?_ | refine Wl.nilF rfl ?_ | refine Wl.add rfl rfl (by omega) (by omega) ?_ | refine Wl.sub rfl rfl (by omega) (by omega) ?_ | refine Wl.mul rfl rfl (by omega) (by omega) ?_ | refine Wl.convI rfl ?_ | (refine Wl.lss rfl rfl (fun _ => ?_) (fun _ => ?_) <;> (first | (exfalso; omega) | (exfalso; contradiction) | skip)) | (refine Wl.leq rfl rfl (fun _ => ?_) (fun _ => ?_) <;> (first | (exfalso; omega) | (exfalso; contradiction) | skip)) | (refine Wl.gtr rfl rfl (fun _ => ?_) (fun _ => ?_) <;> (first | (exfalso; omega) | (exfalso; contradiction) | skip)) | (refine Wl.geq rfl rfl (fun _ => ?_) (fun _ => ?_) <;> (first | (exfalso; omega) | (exfalso; contradiction) | skip)) | (refine Wl.eql rfl rfl (fun _ => ?_) (fun _ => ?_) <;> (first | (exfalso; omega) | (exfalso; contradiction) | skip)) | (refine Wl.neq rfl rfl (fun _ => ?_) (fun _ => ?_) <;> (first | (exfalso; omega) | (exfalso; contradiction) | skip)) | (refine Wl.seql rfl rfl (fun _ => ?_) (fun _ => ?_) <;> (first | (exfalso; omega) | (exfalso; contradiction) | skip)) | (refine Wl.sneq rfl rfl (fun _ => ?_) (fun _ => ?_) <;> (first | (exfalso; omega) | (exfalso; contradiction) | skip))))
        refine Wl.mapPut (key := u64V y.id) (u := vi 1) kU q4 (keyU hyw.id) (mp_not hnew) rfl rfl rfl fun W4 p4 d4 s4 => ?_
        rw [mp_snoc, List.cons_append, ← hout] at p4
        have q5' := q5.chg d4 (by omega)
        have q6' := q6.chg d4 (by omega)
        have q8' := q8.chg d4 (by omega)
        have q7' := q7.chg (plain_one _) d4 fun j e e' => by have := hu1 j e; omega
        have z4 := d4.size
        (repeat' (first | refine Wl.moveE (by conv => { lhs; whnf }) ?_ | refine Wl.assignE (by conv => { lhs; whnf }) ?_ | refine Wl.nil ?_ | refine Wl.extract rfl rfl ?_ | refine Wl.guardY rfl rfl ?_ | refine Wl.guardN rfl rfl ?_ | refine Wl.guardU rfl ?_ | refine Wl.pickTE rfl (by conv => { lhs; whnf }) ?_ | refine Wl.pickFE rfl (by conv => { lhs; whnf }) ?_ | refine Wl.notB rfl ?_ | refine Wl.lenS rfl ?_ | refine Wl.lenStr rfl ?_ | refine Qsr.normal ?_ | refine Wr.seq ?_ | refine Wr.region rfl (by repeat' (first | exact Qfn.out (by rintro _ ⟨⟨_, e⟩, _⟩; cases e) | exact Qrd.out | exact Qas.out | refine Qsr.out ?_ | refine Qloop.out ?_ | refine Qsc.out ?_ | refine Qblk.out ?_)) ?_ | refine Wr.block ?_ | refine Wr.skip ?_ | refine Wr.exit ?_ | refine Wr.ret ?_ | refine Qsr.exit ?_ | refine Qsr.ret ?_ | refine Qblk.normal ?_ | refine Qblk.ret ?_ | refine Qblk.hit ?_ | refine Qblk.miss rfl ?_ | refine Wr.scope ?_ | refine Wr.label ?_ | refine Qsc.normal ?_ | refine Qsc.exit ?_ | refine Qsc.ret ?_ | refine Qloop.exit ?_ | refine Qloop.ret ?_ | refine Wr.condT rfl ?_ | refine Wr.condF rfl ?_ | refine Wl.nilP rfl ?_ | refine Wl.fieldAddr rfl rfl ?_ | refine Wl.nilF rfl ?_ | refine Wl.add rfl rfl (by omega) (by omega) ?_ | refine Wl.sub rfl rfl (by omega) (by omega) ?_ | refine Wl.mul rfl rfl (by omega) (by omega) ?_ | refine Wl.convI rfl ?_ | (refine Wl.lss rfl rfl (fun _ => ?_) (fun _ => ?_) <;> (first | (exfalso; omega) | (exfalso; contradiction) | skip)) | (refine Wl.leq rfl rfl (fun _ => ?_) (fun _ => ?_) <;> (first | (exfalso; omega) | (exfalso; contradiction) | skip)) | (refine Wl.gtr rfl rfl (fun _ => ?_) (fun _ => ?_) <;> (first | (exfalso; omega) | (exfalso; contradiction) | skip)) | (refine Wl.geq rfl rfl (fun _ => ?_) (fun _ => ?_) <;> (first | (exfalso; omega) | (exfalso; contradiction) | skip)) | (refine Wl.eql rfl rfl (fun _ => ?_) (fun _ => ?_) <;> (first | (exfalso; omega) | (exfalso; contradiction) | skip)) | (refine Wl.neq rfl rfl (fun _ => ?_) (fun _ => ?_) <;> (first | (exfalso; omega) | (exfalso; contradiction) | skip)) | (refine Wl.seql rfl rfl (fun _ => ?_) (fun _ => ?_) <;> (first | (exfalso; omega) | (exfalso; contradiction) | skip)) | (refine Wl.sneq rfl rfl (fun _ => ?_) (fun _ => ?_) <;> (first | (exfalso; omega) | (exfalso; contradiction) | skip))))
        refine Wl.load1 rfl (q6'.cell (o := 0) rfl) ?_
        (repeat' (first | refine Wl.moveE (by conv => { lhs; whnf }) ?_ | refine Wl.assignE (by conv => { lhs; whnf }) ?_ | refine Wl.nil ?_ | refine Wl.extract rfl rfl ?_ | refine Wl.guardY rfl rfl ?_ | refine Wl.guardN rfl rfl ?_ | refine Wl.guardU rfl ?_ | refine Wl.pickTE rfl (by conv => { lhs; whnf }) ?_ | refine Wl.pickFE rfl (by conv => { lhs; whnf }) ?_ | refine Wl.notB rfl ?_ | refine Wl.lenS rfl ?_ | refine Wl.lenStr rfl ?_ | refine Qsr.normal ?_ | refine Wr.seq ?_ | refine Wr.region rfl (by repeat' (first | exact Qfn.out (by rintro _ ⟨⟨_, e⟩, _⟩; cases e) | exact Qrd.out | exact Qas.out | refine Qsr.out ?_ | refine Qloop.out ?_ | refine Qsc.out ?_ | refine Qblk.out ?_)) ?_ | refine Wr.block ?_ | refine Wr.skip ?_ | refine Wr.exit ?_ | refine Wr.ret ?_ | refine Qsr.exit ?_ | refine Qsr.ret ?_ | refine Qblk.normal ?_ | refine Qblk.ret ?_ | refine Qblk.hit ?_ | refine Qblk.miss rfl ?_ | refine Wr.scope ?_ | refine Wr.label ?_ | refine Qsc.normal ?_ | refine Qsc.exit ?_ | refine Qsc.ret ?_ | refine Qloop.exit ?_ | refine Qloop.ret ?_ | refine Wr.condT rfl ?_ | refine Wr.condF rfl ?_ | refine Wl.nilP rfl ?_ | refine Wl.fieldAddr rfl rfl ?_ | refine Wl.nilF rfl ?_ | refine Wl.add rfl rfl (by omega) (by omega) ?_ | refine Wl.sub rfl rfl (by omega) (by omega) ?_ | refine Wl.mul rfl rfl (by omega) (by omega) ?_ | refine Wl.convI rfl ?_ | (refine Wl.lss rfl rfl (fun _ => ?_) (fun _ => ?_) <;> (first | (exfalso; omega) | (exfalso; contradiction) | skip)) | (refine Wl.leq rfl rfl (fun _ => ?_) (fun _ => ?_) <;> (first | (exfalso; omega) | (exfalso; contradiction) | skip)) | (refine Wl.gtr rfl rfl (fun _ => ?_) (fun _ => ?_) <;> (first | (exfalso; omega) | (exfalso; contradiction) | skip)) | (refine Wl.geq rfl rfl (fun _ => ?_) (fun _ => ?_) <;> (first | (exfalso; omega) | (exfalso; contradiction) | skip)) | (refine Wl.eql rfl rfl (fun _ => ?_) (fun _ => ?_) <;> (first | (exfalso; omega) | (exfalso; contradiction) | skip)) | (refine Wl.neq rfl rfl (fun _ => ?_) (fun _ => ?_) <;> (first | (exfalso; omega) | (exfalso; contradiction) | skip)) | (refine Wl.seql rfl rfl (fun _ => ?_) (fun _ => ?_) <;> (first | (exfalso; omega) | (exfalso; contradiction) | skip)) | (refine Wl.sneq rfl rfl (fun _ => ?_) (fun _ => ?_) <;> (first | (exfalso; omega) | (exfalso; contradiction) | skip))))
        refine Wl.load1 rfl (q8'.cell (o := 0) rfl) ?_
        refine Wl.append1 (y := y.id) goodU q7' rfl rfl rfl rfl rfl (by omega) (by omega) (by simp only [maxLen]; omega) (by omega) rfl rfl fun u' W5 p o5 d5 lie => ?_
        rw [← hout] at o5
        have q6'' := q6'.chg d5 fun e => by have := hu1 _ e; omega
        refine Wl.store1 q6'' rfl Nat.zero_lt_one rfl (by obtain ⟨_, _, rfl, _⟩ := o5.form; rfl) fun W6 q9' d6 => ?_
        have z5 := d5.size
        have z6 := d6.size
        have hu' : ∀ j, u'.ownBlock = some j → j ≠ w7.heap.size := by
          intro j e
          rcases lie with lie | lie
          · rw [lie] at e; have := hu1 j e; omega
          · have := lie j e; omega
        have e36 : Chg (fun j => u.ownBlock = some j ∨ j = w7.heap.size ∨ j = w3.heap.size) W3 W6 := Chg.trans (Chg.trans (d4.mono fun _ _ e => .inr (.inr e)) (d5.mono fun _ _ e => .inl e) fun _ _ e => e) (d6.mono fun _ _ e => .inr (.inl e)) fun _ _ e => e
        (repeat' (first | refine Wl.moveE (by conv => { lhs; whnf }) ?_ | refine Wl.assignE (by conv => { lhs; whnf }) ?_ | refine Wl.nil ?_ | refine Wl.extract rfl rfl ?_ | refine Wl.guardY rfl rfl ?_ | refine Wl.guardN rfl rfl ?_ | refine Wl.guardU rfl ?_ | refine Wl.pickTE rfl (by conv => { lhs; whnf }) ?_ | refine Wl.pickFE rfl (by conv => { lhs; whnf }) ?_ | refine Wl.notB rfl ?_ | refine Wl.lenS rfl ?_ | refine Wl.lenStr rfl ?_ | refine Qsr.normal ?_ | refine Wr.seq ?_ | refine Wr.region rfl (by repeat' (first | exact Qfn.out (by rintro _ ⟨⟨_, e⟩, _⟩; cases e) | exact Qrd.out | exact Qas.out | refine Qsr.out ?_ | refine Qloop.out ?_ | refine Qsc.out ?_ | refine Qblk.out ?_)) ?_ | refine Wr.block ?_ | refine Wr.skip ?_ | refine Wr.exit ?_ | refine Wr.ret ?_ | refine Qsr.exit ?_ | refine Qsr.ret ?_ | refine Qblk.normal ?_ | refine Qblk.ret ?_ | refine Qblk.hit ?_ | refine Qblk.miss rfl ?_ | refine Wr.scope ?_ | refine Wr.label ?_ | refine Qsc.normal ?_ | refine Qsc.exit ?_ | refine Qsc.ret ?_ | refine Qloop.exit ?_ | refine Qloop.ret ?_ | refine Wr.condT rfl ?_ | refine Wr.condF rfl ?_ | refine Wl.nilP rfl ?_ | refine Wl.fieldAddr rfl rfl ?_ | refine Wl.nilF rfl ?_ | refine Wl.add rfl rfl (by omega) (by omega) ?_ | refine Wl.sub rfl rfl (by omega) (by omega) ?_ | refine Wl.mul rfl rfl (by omega) (by omega) ?_ | refine Wl.convI rfl ?_ | (refine Wl.lss rfl rfl (fun _ => ?_) (fun _ => ?_) <;> (first | (exfalso; omega) | (exfalso; contradiction) | skip)) | (refine Wl.leq rfl rfl (fun _ => ?_) (fun _ => ?_) <;> (first | (exfalso; omega) | (exfalso; contradiction) | skip)) | (refine Wl.gtr rfl rfl (fun _ => ?_) (fun _ => ?_) <;> (first | (exfalso; omega) | (exfalso; contradiction) | skip)) | (refine Wl.geq rfl rfl (fun _ => ?_) (fun _ => ?_) <;> (first | (exfalso; omega) | (exfalso; contradiction) | skip)) | (refine Wl.eql rfl rfl (fun _ => ?_) (fun _ => ?_) <;> (first | (exfalso; omega) | (exfalso; contradiction) | skip)) | (refine Wl.neq rfl rfl (fun _ => ?_) (fun _ => ?_) <;> (first | (exfalso; omega) | (exfalso; contradiction) | skip)) | (refine Wl.seql rfl rfl (fun _ => ?_) (fun _ => ?_) <;> (first | (exfalso; omega) | (exfalso; contradiction) | skip)) | (refine Wl.sneq rfl rfl (fun _ => ?_) (fun _ => ?_) <;> (first | (exfalso; omega) | (exfalso; contradiction) | skip))))
        refine ⟨e36.block _ qL.lt ?_, e36.block _ qD.lt ?_, Chg.trans q1 e36 fun j hj e => ?_, by omega, q3.chg e36 ?_ ?_, (p4.chg d5 fun e => by have := hu1 _ e; omega).chg d6 (by omega), (q5'.chg d5 fun e => by have := hu1 _ e; omega).chg d6 (by omega), u', q9', ?_⟩
        · rintro (e | e | e)
          · exact q7.nl qL e rfl
          · omega
          · omega
        · rintro (e | e | e)
          · exact q7.nl qD e rfl
          · omega
          · omega
        · rcases e with e | e | e
          · have := hu1 j e; omega
          · omega
          · omega
        · rintro (e | e | e)
          · have := hu1 _ e; omega
          · omega
          · omega
        · rintro j hj (e | e | e)
          · have := hu1 _ e; omega
          · omega
          · omega
        · exact (o5.chg (plain_one _) d6 fun j e e' => hu' j e e').mono goodU.mo (fun j _ e => by rcases e with e | e <;> omega) fun _ _ e => e
      · have hout : ledS id (t.kept.take (k + 1)) = ledS id (t.kept.take k) := by rw [ledS_snoc hy, if_neg (fun e => hin (List.contains_iff_mem.1 e))]
        (repeat' (first | refine Wl.moveE (by conv => { lhs; whnf }) ?_ | refine Wl.assignE (by conv => { lhs; whnf }) ?_ | refine Wl.nil ?_ | refine Wl.extract rfl rfl ?_ | refine Wl.guardY rfl rfl ?_ | refine Wl.guardN rfl rfl ?_ | refine Wl.guardU rfl ?_ | refine Wl.pickTE rfl (by conv => { lhs; whnf }) ?_ | refine Wl.pickFE rfl (by conv => { lhs; whnf }) ?_ | refine Wl.notB rfl ?_ | refine Wl.lenS rfl ?_ | refine Wl.lenStr rfl ?_ | refine Qsr.normal ?_ | refine Wr.seq ?_ | refine Wr.region rfl (by repeat' (first | exact Qfn.out (by rintro _ ⟨⟨_, e⟩, _⟩; cases e) | exact Qrd.out | exact Qas.out | refine Qsr.out ?_ | refine Qloop.out ?_ | refine Qsc.out ?_ | refine Qblk.out ?_)) ?_ | refine Wr.block ?_ | refine Wr.skip ?_ | refine Wr.exit ?_ | refine Wr.ret ?_ | refine Qsr.exit ?_ | refine Qsr.ret ?_ | refine Qblk.normal ?_ | refine Qblk.ret ?_ | refine Qblk.hit ?_ | refine Qblk.miss rfl ?_ | refine Wr.scope ?_ | refine Wr.label ?_ | refine Qsc.normal ?_ | refine Qsc.exit ?_ | refine Qsc.ret ?_ | refine Qloop.exit ?_ | refine Qloop.ret ?_ | refine Wr.condT rfl ?_ | refine Wr.condF rfl ?_ | refine Wl.nilP rfl ?_ | refine Wl.fieldAddr rfl rfl ?_ | refine Wl.nilF rfl ?_ | refine Wl.add rfl rfl (by omega) (by omega) ?_ | refine Wl.sub rfl rfl (by omega) (by omega) ?_ | refine Wl.mul rfl rfl (by omega) (by omega) ?_ | refine Wl.convI rfl ?_ | (refine Wl.lss rfl rfl (fun _ => ?_) (fun _ => ?_) <;> (first | (exfalso; omega) | (exfalso; contradiction) | skip)) | (refine Wl.leq rfl rfl (fun _ => ?_) (fun _ => ?_) <;> (first | (exfalso; omega) | (exfalso; contradiction) | skip)) | (refine Wl.gtr rfl rfl (fun _ => ?_) (fun _ => ?_) <;> (first | (exfalso; omega) | (exfalso; contradiction) | skip)) | (refine Wl.geq rfl rfl (fun _ => ?_) (fun _ => ?_) <;> (first | (exfalso; omega) | (exfalso; contradiction) | skip)) | (refine Wl.eql rfl rfl (fun _ => ?_) (fun _ => ?_) <;> (first | (exfalso; omega) | (exfalso; contradiction) | skip)) | (refine Wl.neq rfl rfl (fun _ => ?_) (fun _ => ?_) <;> (first | (exfalso; omega) | (exfalso; contradiction) | skip)) | (refine Wl.seql rfl rfl (fun _ => ?_) (fun _ => ?_) <;> (first | (exfalso; omega) | (exfalso; contradiction) | skip)) | (refine Wl.sneq rfl rfl (fun _ => ?_) (fun _ => ?_) <;> (first | (exfalso; omega) | (exfalso; contradiction) | skip))))
        refine ⟨rfl, rfl, q1, by omega, q3, ?_, q5, u, q6, ?_⟩
        · rw [hout]; exact q4
        · rw [hout]; exact q7
    · rintro W ⟨h1, h2, h3, h4, h5, u, h6, h7⟩ hD
      rw [List.take_length] at h7
      (repeat' (first | refine Wl.moveE (by conv => { lhs; whnf }) ?_ | refine Wl.assignE (by conv => { lhs; whnf }) ?_ | refine Wl.nil ?_ | refine Wl.extract rfl rfl ?_ | refine Wl.guardY rfl rfl ?_ | refine Wl.guardN rfl rfl ?_ | refine Wl.guardU rfl ?_ | refine Wl.pickTE rfl (by conv => { lhs; whnf }) ?_ | refine Wl.pickFE rfl (by conv => { lhs; whnf }) ?_ | refine Wl.notB rfl ?_ | refine Wl.lenS rfl ?_ | refine Wl.lenStr rfl ?_ | refine Wd.seq ?_ | refine Wd.block ?_ | refine Wd.condT rfl ?_ | refine Wd.condF rfl ?_ | refine Qds.normal ?_ | refine Qds.exit ?_ | refine Qds.ret ?_ | refine Qdb.normal ?_ | refine Qdb.ret ?_ | refine Qdb.hit ?_ | refine Qdb.miss rfl ?_ | refine Qdn.e ?_ | refine Wd.region ?_ | refine Wd.skip ?_ | refine Wd.exit ?_ | refine Wd.ret ?_ | refine Wl.nilP rfl ?_ | refine Wl.fieldAddr rfl rfl ?_ | refine Wl.nilF rfl ?_ | refine Wl.add rfl rfl (by omega) (by omega) ?_ | refine Wl.sub rfl rfl (by omega) (by omega) ?_ | refine Wl.mul rfl rfl (by omega) (by omega) ?_ | refine Wl.convI rfl ?_ | (refine Wl.lss rfl rfl (fun _ => ?_) (fun _ => ?_) <;> (first | (exfalso; omega) | (exfalso; contradiction) | skip)) | (refine Wl.leq rfl rfl (fun _ => ?_) (fun _ => ?_) <;> (first | (exfalso; omega) | (exfalso; contradiction) | skip)) | (refine Wl.gtr rfl rfl (fun _ => ?_) (fun _ => ?_) <;> (first | (exfalso; omega) | (exfalso; contradiction) | skip)) | (refine Wl.geq rfl rfl (fun _ => ?_) (fun _ => ?_) <;> (first | (exfalso; omega) | (exfalso; contradiction) | skip)) | (refine Wl.eql rfl rfl (fun _ => ?_) (fun _ => ?_) <;> (first | (exfalso; omega) | (exfalso; contradiction) | skip)) | (refine Wl.neq rfl rfl (fun _ => ?_) (fun _ => ?_) <;> (first | (exfalso; omega) | (exfalso; contradiction) | skip)) | (refine Wl.seql rfl rfl (fun _ => ?_) (fun _ => ?_) <;> (first | (exfalso; omega) | (exfalso; contradiction) | skip)) | (refine Wl.sneq rfl rfl (fun _ => ?_) (fun _ => ?_) <;> (first | (exfalso; omega) | (exfalso; contradiction) | skip))))
      refine Wl.load1 rfl (h6.cell (o := 0) rfl) ?_
      (repeat' (first | refine Wl.moveE (by conv => { lhs; whnf }) ?_ | refine Wl.assignE (by conv => { lhs; whnf }) ?_ | refine Wl.nil ?_ | refine Wl.extract rfl rfl ?_ | refine Wl.guardY rfl rfl ?_ | refine Wl.guardN rfl rfl ?_ | refine Wl.guardU rfl ?_ | refine Wl.pickTE rfl (by conv => { lhs; whnf }) ?_ | refine Wl.pickFE rfl (by conv => { lhs; whnf }) ?_ | refine Wl.notB rfl ?_ | refine Wl.lenS rfl ?_ | refine Wl.lenStr rfl ?_ | refine Wd.seq ?_ | refine Wd.block ?_ | refine Wd.condT rfl ?_ | refine Wd.condF rfl ?_ | refine Qds.normal ?_ | refine Qds.exit ?_ | refine Qds.ret ?_ | refine Qdb.normal ?_ | refine Qdb.ret ?_ | refine Qdb.hit ?_ | refine Qdb.miss rfl ?_ | refine Qdn.e ?_ | refine Wd.region ?_ | refine Wd.skip ?_ | refine Wd.exit ?_ | refine Wd.ret ?_ | refine Wl.nilP rfl ?_ | refine Wl.fieldAddr rfl rfl ?_ | refine Wl.nilF rfl ?_ | refine Wl.add rfl rfl (by omega) (by omega) ?_ | refine Wl.sub rfl rfl (by omega) (by omega) ?_ | refine Wl.mul rfl rfl (by omega) (by omega) ?_ | refine Wl.convI rfl ?_ | (refine Wl.lss rfl rfl (fun _ => ?_) (fun _ => ?_) <;> (first | (exfalso; omega) | (exfalso; contradiction) | skip)) | (refine Wl.leq rfl rfl (fun _ => ?_) (fun _ => ?_) <;> (first | (exfalso; omega) | (exfalso; contradiction) | skip)) | (refine Wl.gtr rfl rfl (fun _ => ?_) (fun _ => ?_) <;> (first | (exfalso; omega) | (exfalso; contradiction) | skip)) | (refine Wl.geq rfl rfl (fun _ => ?_) (fun _ => ?_) <;> (first | (exfalso; omega) | (exfalso; contradiction) | skip)) | (refine Wl.eql rfl rfl (fun _ => ?_) (fun _ => ?_) <;> (first | (exfalso; omega) | (exfalso; contradiction) | skip)) | (refine Wl.neq rfl rfl (fun _ => ?_) (fun _ => ?_) <;> (first | (exfalso; omega) | (exfalso; contradiction) | skip)) | (refine Wl.seql rfl rfl (fun _ => ?_) (fun _ => ?_) <;> (first | (exfalso; omega) | (exfalso; contradiction) | skip)) | (refine Wl.sneq rfl rfl (fun _ => ?_) (fun _ => ?_) <;> (first | (exfalso; omega) | (exfalso; contradiction) | skip))))
      refine Lv.mark (by simp) hD ?_
      have nD : NoC W w9.heap.size := .mark hD
      refine Lv.ret (results2 rfl (rvOf_tmp rfl) (rvOf_tmp rfl)) ⟨_, rfl, _, rfl, (h7.put _ (plain_one _) nD).mono goodU.mo (fun j _ e => by omega) (fun _ _ e => e), h1.put _ (by omega)⟩
    · exact fun _ h => h.elim
    · exact fun _ _ h => h.elim
end Go.Proofs.YtjaendlcijmifaaDoor

namespace Go.Proofs.YtjaendlcijmifaaDoor
open Go Wk
open Go.RowKit (Below)
attribute [local irreducible] Go.Calls

abbrev why (t : Tr) (x : Ev) : List Ev := (whyF t x.id x).1
theorem whyF_step {t : Tr} (h : TrOk t) {x : Ev} (hx : x ∈ t.kept) : whyF t x.id x = if x.ca = 0 then ([x], true) else match t.get x.ca with
    | none => ([x], false)
    | some y => (x :: (whyF t y.id y).1, (whyF t y.id y).2) := by
  have hc := h.cas x hx
  obtain ⟨f, hf⟩ : ∃ f, x.id = f + 1 := ⟨x.id - 1, by omega⟩
  rw [hf]
  conv => lhs; unfold whyF
  by_cases h0 : x.ca = 0
  · rw [if_pos h0, if_pos h0]
  · rw [if_neg h0, if_neg h0]
    cases hq : t.get x.ca with
    | none => rfl
    | some y =>
      obtain ⟨hy1, hy2, _⟩ := h.get hq
      dsimp only
      rw [whyF_fuel h f y.id y hy2 (by omega) (Nat.le_refl _)]
theorem mem_id {t : Tr} (h : TrOk t) {x : Ev} (hx : x ∈ t.kept) : t.gone < x.id ∧ x.id ≤ t.last := by
  obtain ⟨i, hi⟩ := List.mem_iff_getElem?.1 hx
  have := h.ids i x hi
  have hl := (List.getElem?_eq_some_iff.1 hi).1
  unfold Tr.last; omega
/-- The numbers behind an event's own. -/
def tailIds (t : Tr) (x : Ev) : List Nat := ((why t x).drop 1).map Ev.id
theorem why_head {t : Tr} (h : TrOk t) {x : Ev} (hx : x ∈ t.kept) : (why t x)[0]? = some x := by
  unfold why
  rw [whyF_step h hx]
  split
  · rfl
  · cases t.get x.ca <;> rfl
theorem tailIds_step {t : Tr} (h : TrOk t) {x : Ev} (hx : x ∈ t.kept) : tailIds t x = match (if x.ca = 0 then none else t.get x.ca) with
    | none => []
    | some y => y.id :: tailIds t y := by
  unfold tailIds why
  rw [whyF_step h hx]
  by_cases h0 : x.ca = 0
  · rw [if_pos h0, if_pos h0]; rfl
  · rw [if_neg h0, if_neg h0]
    cases hq : t.get x.ca with
    | none => rfl
    | some y =>
      have hy := why_head h (h.get hq).2.1
      unfold why at hy
      show ((whyF t y.id y).1).map Ev.id = y.id :: (((whyF t y.id y).1).drop 1).map Ev.id
      cases hw : (whyF t y.id y).1 with
      | nil => rw [hw] at hy; cases hy
      | cons a r =>
        rw [hw] at hy
        cases hy; rfl
/-- An event led to another one just if it stands in that one's Why. -/
theorem led_why {t : Tr} (h : TrOk t) {id : Nat} (hid : t.gone < id) : ∀ k : Nat, k ≤ t.kept.length → ∀ (j : Nat) (y : Ev), j < k → t.kept[j]? = some y → (y.id ∈ ledS id (t.kept.take k) ↔ id ∈ tailIds t y)
  | 0, _, j, y, hj, _ => by omega
  | k + 1, hk, j, y, hj, hy => by
    obtain ⟨z, hz⟩ := get_lt t.kept (k := k) (by omega)
    obtain ⟨hinv, _⟩ := ledS_inv h id k (by omega)
    have hzi := h.ids k z hz
    have hyi := h.ids j y hy
    rcases Nat.lt_or_ge j k with hjk | hjk
    · have ih := led_why h hid k (by omega) j y hjk hy
      rw [← ih, ledS_snoc hz]
      split
      · rw [List.mem_append, List.mem_singleton]
        constructor
        · rintro (e | e)
          · exact e
          · omega
        · exact .inl
      · exact Iff.rfl
    · obtain rfl : j = k := by omega
      obtain rfl : z = y := by rw [hz] at hy; exact Option.some.inj hy
      have hzm := List.mem_of_getElem? hz
      have hzc := h.cas z hzm
      have hlast : z.id ≤ t.last := (mem_id h hzm).2
      rw [ledS_snoc hz, tailIds_step h hzm]
      have hnot : z.id ∉ ledS id (t.kept.take j) := fun e => by have := hinv _ e; omega
      have key : (id :: ledS id (t.kept.take j)).contains z.ca = true ↔ id ∈ (match (if z.ca = 0 then none else t.get z.ca) with | none => [] | some y => y.id :: tailIds t y : List Nat) := by
        rw [List.contains_iff_mem]
        by_cases h0 : z.ca = 0
        · rw [if_pos h0]
          constructor
          · intro e
            rcases List.mem_cons.1 e with e | e
            · omega
            · have := hinv _ e; omega
          · intro e; cases e
        · rw [if_neg h0]
          cases hq : t.get z.ca with
          | none =>
            have hn := get_none.1 hq
            constructor
            · intro e
              rcases List.mem_cons.1 e with e | e
              · omega
              · have := hinv _ e; omega
            · intro e; cases e
          | some y =>
            obtain ⟨h1, h2, h3, h4, h5⟩ := h.get hq
            have ih := led_why h hid j (by omega) (z.ca - t.gone - 1) y (by omega) h3
            rw [List.mem_cons, List.mem_cons, h1] at *
            constructor
            · rintro (e | e)
              · exact .inl e.symm
              · exact .inr (ih.1 e)
            · rintro (e | e)
              · exact .inl e.symm
              · exact .inr (ih.2 e)
      by_cases hc : (id :: ledS id (t.kept.take j)).contains z.ca = true
      · rw [if_pos hc]
        refine ⟨fun _ => key.1 hc, fun _ => List.mem_append.2 (.inr (List.mem_singleton.2 rfl))⟩
      · rw [if_neg hc]
        exact ⟨fun e => absurd e hnot, fun e => absurd (key.2 e) hc⟩
/-- Each number in a Why has its cause behind it; the end. -/
structure WhyOk (t : Tr) (l : List Ev) (whole : Bool) : Prop where
  ne : l ≠ []
  mem : ∀ e ∈ l, e ∈ t.kept
  fall : ∀ (k : Nat) (e f : Ev), l[k]? = some e → l[k + 1]? = some f → f.id < e.id ∧ f.id = e.ca
  fin : ∀ e, l.getLast? = some e → (whole = true ↔ e.ca = 0) ∧ (whole = false → e.ca ≤ t.gone)
theorem why_ok {t : Tr} (h : TrOk t) : ∀ (n : Nat) (x : Ev), x.id ≤ n → x ∈ t.kept → WhyOk t (whyF t x.id x).1 (whyF t x.id x).2
  | 0, x, hn, hx => by have := h.cas x hx; omega
  | n + 1, x, hn, hx => by
    have hxc := h.cas x hx
    have hxl := (mem_id h hx).2
    rw [whyF_step h hx]
    by_cases h0 : x.ca = 0
    · rw [if_pos h0]
      refine ⟨by simp, fun e he => by rw [List.mem_singleton.1 he]; exact hx, fun k e f _ hf => by simp at hf, fun e he => ?_⟩
      cases he
      exact ⟨⟨fun _ => h0, fun _ => rfl⟩, fun e => absurd e (by simp)⟩
    · rw [if_neg h0]
      cases hq : t.get x.ca with
      | none =>
        have hn := get_none.1 hq
        refine ⟨by simp, fun e he => by rw [List.mem_singleton.1 he]; exact hx, fun k e f _ hf => by simp at hf, fun e he => ?_⟩
        cases he
        refine ⟨⟨fun e => absurd e (by simp), fun e => absurd e h0⟩, fun _ => ?_⟩
        show x.ca ≤ t.gone
        omega
      | some y =>
        obtain ⟨h1, h2, _⟩ := h.get hq
        have ih := why_ok h n y (by omega) h2
        have hy := why_head h h2
        unfold why at hy
        dsimp only
        generalize (whyF t y.id y).1 = r at ih hy ⊢
        cases r with
        | nil => cases hy
        | cons a r =>
          cases hy
          refine ⟨by simp, fun e he => ?_, fun k e f he hf => ?_, fun e he => ?_⟩
          · rcases List.mem_cons.1 he with rfl | he
            · exact hx
            · exact ih.mem e he
          · cases k with
            | zero =>
              cases he
              cases hf
              omega
            | succ k => exact ih.fall k e f he hf
          · rw [List.getLast?_cons_cons] at he
            exact ih.fin e he
theorem among_spec {Pb : Nat → Prop} {w : World} {v : Value} {l : List Nat} {n : Nat} (h : RdS (one u64V) 1 Pb w v l) :
    Calls Tryd.prog 18 #[v, .int .u64 n] w (Ret fun r w' => r = .bool (l.contains n) ∧ w = w') := by
  obtain ⟨a, cp, rfl, hc1, hc2⟩ := h.form
  simp only [maxLen] at hc2
  refine calls_of_Wc Tryd.func18 rfl Tryd.ntmps18 rfl ?_
  (repeat' (first | refine Wl.moveE (by conv => { lhs; whnf }) ?_ | refine Wl.assignE (by conv => { lhs; whnf }) ?_ | refine Wl.nil ?_ | refine Wl.extract rfl rfl ?_ | refine Wl.guardY rfl rfl ?_ | refine Wl.guardN rfl rfl ?_ | refine Wl.guardU rfl ?_ | refine Wl.pickTE rfl (by conv => { lhs; whnf }) ?_ | refine Wl.pickFE rfl (by conv => { lhs; whnf }) ?_ | refine Wl.notB rfl ?_ | refine Wl.lenS rfl ?_ | refine Wl.lenStr rfl ?_ | refine Qseq.normal ?_ | refine Wc.seq ?_ | refine Wc.region ?_ | refine Wc.block ?_ | refine Wc.skip ?_ | refine Wc.exit ?_ | refine Wc.ret ?_ | refine Qseq.exit ?_ | refine Qseq.ret ?_ | refine Wc.scope ?_ | refine Wc.label ?_ | refine Qsc.normal ?_ | refine Qsc.exit ?_ | refine Qsc.ret ?_ | refine Qblk.normal ?_ | refine Qblk.ret ?_ | refine Qblk.hit ?_ | refine Qblk.miss rfl ?_ | refine Qloop.exit ?_ | refine Qloop.ret ?_ | refine Wc.condT rfl ?_ | refine Wc.condF rfl ?_ | refine Wl.nilP rfl ?_ | refine Wl.fieldAddr rfl rfl ?_ | refine Wl.nilF rfl ?_ | refine Wl.add rfl rfl (by omega) (by omega) ?_ | refine Wl.sub rfl rfl (by omega) (by omega) ?_ | refine Wl.mul rfl rfl (by omega) (by omega) ?_ | refine Wl.convI rfl ?_ | (refine Wl.lss rfl rfl (fun _ => ?_) (fun _ => ?_) <;> (first | (exfalso; omega) | (exfalso; contradiction) | skip)) | (refine Wl.leq rfl rfl (fun _ => ?_) (fun _ => ?_) <;> (first | (exfalso; omega) | (exfalso; contradiction) | skip)) | (refine Wl.gtr rfl rfl (fun _ => ?_) (fun _ => ?_) <;> (first | (exfalso; omega) | (exfalso; contradiction) | skip)) | (refine Wl.geq rfl rfl (fun _ => ?_) (fun _ => ?_) <;> (first | (exfalso; omega) | (exfalso; contradiction) | skip)) | (refine Wl.eql rfl rfl (fun _ => ?_) (fun _ => ?_) <;> (first | (exfalso; omega) | (exfalso; contradiction) | skip)) | (refine Wl.neq rfl rfl (fun _ => ?_) (fun _ => ?_) <;> (first | (exfalso; omega) | (exfalso; contradiction) | skip)) | (refine Wl.seql rfl rfl (fun _ => ?_) (fun _ => ?_) <;> (first | (exfalso; omega) | (exfalso; contradiction) | skip)) | (refine Wl.sneq rfl rfl (fun _ => ?_) (fun _ => ?_) <;> (first | (exfalso; omega) | (exfalso; contradiction) | skip))))
  refine Wc.loop (σ := Nat) (fun i => [(0, .slice a l.length cp), (1, .int .u64 n), (5, vi i)]) (fun i w' => i ≤ l.length ∧ (∀ x ∈ l.take i, decide (x = n) = false) ∧ w = w') (fun i => l.length - i) 0 ⟨rfl, rfl, rfl, trivial⟩ ⟨Nat.zero_le _, by simp, rfl⟩ ?_
  rintro i G _ ⟨hi, hall, rfl⟩
  simp only [upds]
  (repeat' (first | refine Wl.moveE (by conv => { lhs; whnf }) ?_ | refine Wl.assignE (by conv => { lhs; whnf }) ?_ | refine Wl.nil ?_ | refine Wl.extract rfl rfl ?_ | refine Wl.guardY rfl rfl ?_ | refine Wl.guardN rfl rfl ?_ | refine Wl.guardU rfl ?_ | refine Wl.pickTE rfl (by conv => { lhs; whnf }) ?_ | refine Wl.pickFE rfl (by conv => { lhs; whnf }) ?_ | refine Wl.notB rfl ?_ | refine Wl.lenS rfl ?_ | refine Wl.lenStr rfl ?_ | refine Qseq.normal ?_ | refine Wc.seq ?_ | refine Wc.region ?_ | refine Wc.block ?_ | refine Wc.skip ?_ | refine Wc.exit ?_ | refine Wc.ret ?_ | refine Qseq.exit ?_ | refine Qseq.ret ?_ | refine Wc.scope ?_ | refine Wc.label ?_ | refine Qsc.normal ?_ | refine Qsc.exit ?_ | refine Qsc.ret ?_ | refine Qblk.normal ?_ | refine Qblk.ret ?_ | refine Qblk.hit ?_ | refine Qblk.miss rfl ?_ | refine Qloop.exit ?_ | refine Qloop.ret ?_ | refine Wc.condT rfl ?_ | refine Wc.condF rfl ?_ | refine Wl.nilP rfl ?_ | refine Wl.fieldAddr rfl rfl ?_ | refine Wl.nilF rfl ?_ | refine Wl.add rfl rfl (by omega) (by omega) ?_ | refine Wl.sub rfl rfl (by omega) (by omega) ?_ | refine Wl.mul rfl rfl (by omega) (by omega) ?_ | refine Wl.convI rfl ?_ | (refine Wl.lss rfl rfl (fun _ => ?_) (fun _ => ?_) <;> (first | (exfalso; omega) | (exfalso; contradiction) | skip)) | (refine Wl.leq rfl rfl (fun _ => ?_) (fun _ => ?_) <;> (first | (exfalso; omega) | (exfalso; contradiction) | skip)) | (refine Wl.gtr rfl rfl (fun _ => ?_) (fun _ => ?_) <;> (first | (exfalso; omega) | (exfalso; contradiction) | skip)) | (refine Wl.geq rfl rfl (fun _ => ?_) (fun _ => ?_) <;> (first | (exfalso; omega) | (exfalso; contradiction) | skip)) | (refine Wl.eql rfl rfl (fun _ => ?_) (fun _ => ?_) <;> (first | (exfalso; omega) | (exfalso; contradiction) | skip)) | (refine Wl.neq rfl rfl (fun _ => ?_) (fun _ => ?_) <;> (first | (exfalso; omega) | (exfalso; contradiction) | skip)) | (refine Wl.seql rfl rfl (fun _ => ?_) (fun _ => ?_) <;> (first | (exfalso; omega) | (exfalso; contradiction) | skip)) | (refine Wl.sneq rfl rfl (fun _ => ?_) (fun _ => ?_) <;> (first | (exfalso; omega) | (exfalso; contradiction) | skip))))
  · obtain ⟨y, hy⟩ := get_lt l (k := i) (by omega)
    refine Wl.idxAddrV h rfl rfl (by omega) (by rw [Int.toNat_natCast]; exact hy) fun b o hc => ?_
    refine Wl.load1 rfl hc ?_
    (repeat' (first | refine Wl.moveE (by conv => { lhs; whnf }) ?_ | refine Wl.assignE (by conv => { lhs; whnf }) ?_ | refine Wl.nil ?_ | refine Wl.extract rfl rfl ?_ | refine Wl.guardY rfl rfl ?_ | refine Wl.guardN rfl rfl ?_ | refine Wl.guardU rfl ?_ | refine Wl.pickTE rfl (by conv => { lhs; whnf }) ?_ | refine Wl.pickFE rfl (by conv => { lhs; whnf }) ?_ | refine Wl.notB rfl ?_ | refine Wl.lenS rfl ?_ | refine Wl.lenStr rfl ?_ | refine Qseq.normal ?_ | refine Wc.seq ?_ | refine Wc.region ?_ | refine Wc.block ?_ | refine Wc.skip ?_ | refine Wc.exit ?_ | refine Wc.ret ?_ | refine Qseq.exit ?_ | refine Qseq.ret ?_ | refine Wc.scope ?_ | refine Wc.label ?_ | refine Qsc.normal ?_ | refine Qsc.exit ?_ | refine Qsc.ret ?_ | refine Qblk.normal ?_ | refine Qblk.ret ?_ | refine Qblk.hit ?_ | refine Qblk.miss rfl ?_ | refine Qloop.exit ?_ | refine Qloop.ret ?_ | refine Wc.condT rfl ?_ | refine Wc.condF rfl ?_ | refine Wl.nilP rfl ?_ | refine Wl.fieldAddr rfl rfl ?_ | refine Wl.nilF rfl ?_ | refine Wl.add rfl rfl (by omega) (by omega) ?_ | refine Wl.sub rfl rfl (by omega) (by omega) ?_ | refine Wl.mul rfl rfl (by omega) (by omega) ?_ | refine Wl.convI rfl ?_ | (refine Wl.lss rfl rfl (fun _ => ?_) (fun _ => ?_) <;> (first | (exfalso; omega) | (exfalso; contradiction) | skip)) | (refine Wl.leq rfl rfl (fun _ => ?_) (fun _ => ?_) <;> (first | (exfalso; omega) | (exfalso; contradiction) | skip)) | (refine Wl.gtr rfl rfl (fun _ => ?_) (fun _ => ?_) <;> (first | (exfalso; omega) | (exfalso; contradiction) | skip)) | (refine Wl.geq rfl rfl (fun _ => ?_) (fun _ => ?_) <;> (first | (exfalso; omega) | (exfalso; contradiction) | skip)) | (refine Wl.eql rfl rfl (fun _ => ?_) (fun _ => ?_) <;> (first | (exfalso; omega) | (exfalso; contradiction) | skip)) | (refine Wl.neq rfl rfl (fun _ => ?_) (fun _ => ?_) <;> (first | (exfalso; omega) | (exfalso; contradiction) | skip)) | (refine Wl.seql rfl rfl (fun _ => ?_) (fun _ => ?_) <;> (first | (exfalso; omega) | (exfalso; contradiction) | skip)) | (refine Wl.sneq rfl rfl (fun _ => ?_) (fun _ => ?_) <;> (first | (exfalso; omega) | (exfalso; contradiction) | skip))))
    · have e : y = n := by omega
      refine Qfn.ret1 rfl rfl ⟨_, rfl, ?_, rfl⟩
      rw [List.contains_iff_mem.2 (e ▸ List.mem_of_getElem? hy)]; rfl
    · exact Qloop.normal (i + 1) ⟨rfl, rfl, rfl, trivial⟩ ⟨by omega, take_all hy hall (decide_eq_false (by omega)), rfl⟩ (by omega)
  · have e : i = l.length := by omega
    subst e
    rw [List.take_length] at hall
    refine Qfn.ret1 rfl rfl ⟨_, rfl, ?_, rfl⟩
    have : l.contains n = false := by
      rw [Bool.eq_false_iff]; intro e
      have := hall n (List.contains_iff_mem.1 e)
      simp at this
    rw [this]; rfl
theorem stands_spec {Pb : Nat → Prop} {w : World} {v : Value} {l : List Ev} {n : Nat} (h : RdS rEv 6 Pb w v l) (hne : l ≠ []) :
    Calls Tryd.prog 19 #[v, .int .u64 n] w (Ret fun r w' => r = .bool (((l.drop 1).map Ev.id).contains n) ∧ w = w') := by
  obtain ⟨a, cp, rfl, hc1, hc2⟩ := h.form
  simp only [maxLen] at hc2
  have hpos := List.length_pos_iff.2 hne
  refine calls_of_Wc Tryd.func19 rfl Tryd.ntmps19 rfl ?_
  (repeat' (first | refine Wl.moveE (by conv => { lhs; whnf }) ?_ | refine Wl.assignE (by conv => { lhs; whnf }) ?_ | refine Wl.nil ?_ | refine Wl.extract rfl rfl ?_ | refine Wl.guardY rfl rfl ?_ | refine Wl.guardN rfl rfl ?_ | refine Wl.guardU rfl ?_ | refine Wl.pickTE rfl (by conv => { lhs; whnf }) ?_ | refine Wl.pickFE rfl (by conv => { lhs; whnf }) ?_ | refine Wl.notB rfl ?_ | refine Wl.lenS rfl ?_ | refine Wl.lenStr rfl ?_ | refine Qseq.normal ?_ | refine Wc.seq ?_ | refine Wc.region ?_ | refine Wc.block ?_ | refine Wc.skip ?_ | refine Wc.exit ?_ | refine Wc.ret ?_ | refine Qseq.exit ?_ | refine Qseq.ret ?_ | refine Wc.scope ?_ | refine Wc.label ?_ | refine Qsc.normal ?_ | refine Qsc.exit ?_ | refine Qsc.ret ?_ | refine Qblk.normal ?_ | refine Qblk.ret ?_ | refine Qblk.hit ?_ | refine Qblk.miss rfl ?_ | refine Qloop.exit ?_ | refine Qloop.ret ?_ | refine Wc.condT rfl ?_ | refine Wc.condF rfl ?_ | refine Wl.nilP rfl ?_ | refine Wl.fieldAddr rfl rfl ?_ | refine Wl.nilF rfl ?_ | refine Wl.add rfl rfl (by omega) (by omega) ?_ | refine Wl.sub rfl rfl (by omega) (by omega) ?_ | refine Wl.mul rfl rfl (by omega) (by omega) ?_ | refine Wl.convI rfl ?_ | (refine Wl.lss rfl rfl (fun _ => ?_) (fun _ => ?_) <;> (first | (exfalso; omega) | (exfalso; contradiction) | skip)) | (refine Wl.leq rfl rfl (fun _ => ?_) (fun _ => ?_) <;> (first | (exfalso; omega) | (exfalso; contradiction) | skip)) | (refine Wl.gtr rfl rfl (fun _ => ?_) (fun _ => ?_) <;> (first | (exfalso; omega) | (exfalso; contradiction) | skip)) | (refine Wl.geq rfl rfl (fun _ => ?_) (fun _ => ?_) <;> (first | (exfalso; omega) | (exfalso; contradiction) | skip)) | (refine Wl.eql rfl rfl (fun _ => ?_) (fun _ => ?_) <;> (first | (exfalso; omega) | (exfalso; contradiction) | skip)) | (refine Wl.neq rfl rfl (fun _ => ?_) (fun _ => ?_) <;> (first | (exfalso; omega) | (exfalso; contradiction) | skip)) | (refine Wl.seql rfl rfl (fun _ => ?_) (fun _ => ?_) <;> (first | (exfalso; omega) | (exfalso; contradiction) | skip)) | (refine Wl.sneq rfl rfl (fun _ => ?_) (fun _ => ?_) <;> (first | (exfalso; omega) | (exfalso; contradiction) | skip))))
  refine Wc.loop (σ := Nat) (fun i => [(0, .slice a l.length cp), (1, .int .u64 n), (5, vi (i + 1 : Nat))]) (fun i w' => i + 1 ≤ l.length ∧ (∀ x ∈ ((l.drop 1).map Ev.id).take i, decide (x = n) = false) ∧ w = w') (fun i => l.length - i) 0 ⟨rfl, rfl, rfl, trivial⟩ ⟨by omega, by simp, rfl⟩ ?_
  rintro i G _ ⟨hi, hall, rfl⟩
  simp only [upds]
  (repeat' (first | refine Wl.moveE (by conv => { lhs; whnf }) ?_ | refine Wl.assignE (by conv => { lhs; whnf }) ?_ | refine Wl.nil ?_ | refine Wl.extract rfl rfl ?_ | refine Wl.guardY rfl rfl ?_ | refine Wl.guardN rfl rfl ?_ | refine Wl.guardU rfl ?_ | refine Wl.pickTE rfl (by conv => { lhs; whnf }) ?_ | refine Wl.pickFE rfl (by conv => { lhs; whnf }) ?_ | refine Wl.notB rfl ?_ | refine Wl.lenS rfl ?_ | refine Wl.lenStr rfl ?_ | refine Qseq.normal ?_ | refine Wc.seq ?_ | refine Wc.region ?_ | refine Wc.block ?_ | refine Wc.skip ?_ | refine Wc.exit ?_ | refine Wc.ret ?_ | refine Qseq.exit ?_ | refine Qseq.ret ?_ | refine Wc.scope ?_ | refine Wc.label ?_ | refine Qsc.normal ?_ | refine Qsc.exit ?_ | refine Qsc.ret ?_ | refine Qblk.normal ?_ | refine Qblk.ret ?_ | refine Qblk.hit ?_ | refine Qblk.miss rfl ?_ | refine Qloop.exit ?_ | refine Qloop.ret ?_ | refine Wc.condT rfl ?_ | refine Wc.condF rfl ?_ | refine Wl.nilP rfl ?_ | refine Wl.fieldAddr rfl rfl ?_ | refine Wl.nilF rfl ?_ | refine Wl.add rfl rfl (by omega) (by omega) ?_ | refine Wl.sub rfl rfl (by omega) (by omega) ?_ | refine Wl.mul rfl rfl (by omega) (by omega) ?_ | refine Wl.convI rfl ?_ | (refine Wl.lss rfl rfl (fun _ => ?_) (fun _ => ?_) <;> (first | (exfalso; omega) | (exfalso; contradiction) | skip)) | (refine Wl.leq rfl rfl (fun _ => ?_) (fun _ => ?_) <;> (first | (exfalso; omega) | (exfalso; contradiction) | skip)) | (refine Wl.gtr rfl rfl (fun _ => ?_) (fun _ => ?_) <;> (first | (exfalso; omega) | (exfalso; contradiction) | skip)) | (refine Wl.geq rfl rfl (fun _ => ?_) (fun _ => ?_) <;> (first | (exfalso; omega) | (exfalso; contradiction) | skip)) | (refine Wl.eql rfl rfl (fun _ => ?_) (fun _ => ?_) <;> (first | (exfalso; omega) | (exfalso; contradiction) | skip)) | (refine Wl.neq rfl rfl (fun _ => ?_) (fun _ => ?_) <;> (first | (exfalso; omega) | (exfalso; contradiction) | skip)) | (refine Wl.seql rfl rfl (fun _ => ?_) (fun _ => ?_) <;> (first | (exfalso; omega) | (exfalso; contradiction) | skip)) | (refine Wl.sneq rfl rfl (fun _ => ?_) (fun _ => ?_) <;> (first | (exfalso; omega) | (exfalso; contradiction) | skip))))
  · obtain ⟨y, hy⟩ := get_lt l (k := i + 1) (by omega)
    have hy' : ((l.drop 1).map Ev.id)[i]? = some y.id := by rw [List.getElem?_map, List.getElem?_drop, Nat.add_comm 1 i, hy]; rfl
    refine Wl.idxAddr h rfl rfl (by omega) (by rw [Int.toNat_natCast]; exact hy) fun b o cs hcl hR hat => ?_
    obtain rfl : cs = evC y := hR
    (repeat' (first | refine Wl.moveE (by conv => { lhs; whnf }) ?_ | refine Wl.assignE (by conv => { lhs; whnf }) ?_ | refine Wl.nil ?_ | refine Wl.extract rfl rfl ?_ | refine Wl.guardY rfl rfl ?_ | refine Wl.guardN rfl rfl ?_ | refine Wl.guardU rfl ?_ | refine Wl.pickTE rfl (by conv => { lhs; whnf }) ?_ | refine Wl.pickFE rfl (by conv => { lhs; whnf }) ?_ | refine Wl.notB rfl ?_ | refine Wl.lenS rfl ?_ | refine Wl.lenStr rfl ?_ | refine Qseq.normal ?_ | refine Wc.seq ?_ | refine Wc.region ?_ | refine Wc.block ?_ | refine Wc.skip ?_ | refine Wc.exit ?_ | refine Wc.ret ?_ | refine Qseq.exit ?_ | refine Qseq.ret ?_ | refine Wc.scope ?_ | refine Wc.label ?_ | refine Qsc.normal ?_ | refine Qsc.exit ?_ | refine Qsc.ret ?_ | refine Qblk.normal ?_ | refine Qblk.ret ?_ | refine Qblk.hit ?_ | refine Qblk.miss rfl ?_ | refine Qloop.exit ?_ | refine Qloop.ret ?_ | refine Wc.condT rfl ?_ | refine Wc.condF rfl ?_ | refine Wl.nilP rfl ?_ | refine Wl.fieldAddr rfl rfl ?_ | refine Wl.nilF rfl ?_ | refine Wl.add rfl rfl (by omega) (by omega) ?_ | refine Wl.sub rfl rfl (by omega) (by omega) ?_ | refine Wl.mul rfl rfl (by omega) (by omega) ?_ | refine Wl.convI rfl ?_ | (refine Wl.lss rfl rfl (fun _ => ?_) (fun _ => ?_) <;> (first | (exfalso; omega) | (exfalso; contradiction) | skip)) | (refine Wl.leq rfl rfl (fun _ => ?_) (fun _ => ?_) <;> (first | (exfalso; omega) | (exfalso; contradiction) | skip)) | (refine Wl.gtr rfl rfl (fun _ => ?_) (fun _ => ?_) <;> (first | (exfalso; omega) | (exfalso; contradiction) | skip)) | (refine Wl.geq rfl rfl (fun _ => ?_) (fun _ => ?_) <;> (first | (exfalso; omega) | (exfalso; contradiction) | skip)) | (refine Wl.eql rfl rfl (fun _ => ?_) (fun _ => ?_) <;> (first | (exfalso; omega) | (exfalso; contradiction) | skip)) | (refine Wl.neq rfl rfl (fun _ => ?_) (fun _ => ?_) <;> (first | (exfalso; omega) | (exfalso; contradiction) | skip)) | (refine Wl.seql rfl rfl (fun _ => ?_) (fun _ => ?_) <;> (first | (exfalso; omega) | (exfalso; contradiction) | skip)) | (refine Wl.sneq rfl rfl (fun _ => ?_) (fun _ => ?_) <;> (first | (exfalso; omega) | (exfalso; contradiction) | skip))))
    refine Wl.load1 rfl (hat.get 0 rfl) ?_
    (repeat' (first | refine Wl.moveE (by conv => { lhs; whnf }) ?_ | refine Wl.assignE (by conv => { lhs; whnf }) ?_ | refine Wl.nil ?_ | refine Wl.extract rfl rfl ?_ | refine Wl.guardY rfl rfl ?_ | refine Wl.guardN rfl rfl ?_ | refine Wl.guardU rfl ?_ | refine Wl.pickTE rfl (by conv => { lhs; whnf }) ?_ | refine Wl.pickFE rfl (by conv => { lhs; whnf }) ?_ | refine Wl.notB rfl ?_ | refine Wl.lenS rfl ?_ | refine Wl.lenStr rfl ?_ | refine Qseq.normal ?_ | refine Wc.seq ?_ | refine Wc.region ?_ | refine Wc.block ?_ | refine Wc.skip ?_ | refine Wc.exit ?_ | refine Wc.ret ?_ | refine Qseq.exit ?_ | refine Qseq.ret ?_ | refine Wc.scope ?_ | refine Wc.label ?_ | refine Qsc.normal ?_ | refine Qsc.exit ?_ | refine Qsc.ret ?_ | refine Qblk.normal ?_ | refine Qblk.ret ?_ | refine Qblk.hit ?_ | refine Qblk.miss rfl ?_ | refine Qloop.exit ?_ | refine Qloop.ret ?_ | refine Wc.condT rfl ?_ | refine Wc.condF rfl ?_ | refine Wl.nilP rfl ?_ | refine Wl.fieldAddr rfl rfl ?_ | refine Wl.nilF rfl ?_ | refine Wl.add rfl rfl (by omega) (by omega) ?_ | refine Wl.sub rfl rfl (by omega) (by omega) ?_ | refine Wl.mul rfl rfl (by omega) (by omega) ?_ | refine Wl.convI rfl ?_ | (refine Wl.lss rfl rfl (fun _ => ?_) (fun _ => ?_) <;> (first | (exfalso; omega) | (exfalso; contradiction) | skip)) | (refine Wl.leq rfl rfl (fun _ => ?_) (fun _ => ?_) <;> (first | (exfalso; omega) | (exfalso; contradiction) | skip)) | (refine Wl.gtr rfl rfl (fun _ => ?_) (fun _ => ?_) <;> (first | (exfalso; omega) | (exfalso; contradiction) | skip)) | (refine Wl.geq rfl rfl (fun _ => ?_) (fun _ => ?_) <;> (first | (exfalso; omega) | (exfalso; contradiction) | skip)) | (refine Wl.eql rfl rfl (fun _ => ?_) (fun _ => ?_) <;> (first | (exfalso; omega) | (exfalso; contradiction) | skip)) | (refine Wl.neq rfl rfl (fun _ => ?_) (fun _ => ?_) <;> (first | (exfalso; omega) | (exfalso; contradiction) | skip)) | (refine Wl.seql rfl rfl (fun _ => ?_) (fun _ => ?_) <;> (first | (exfalso; omega) | (exfalso; contradiction) | skip)) | (refine Wl.sneq rfl rfl (fun _ => ?_) (fun _ => ?_) <;> (first | (exfalso; omega) | (exfalso; contradiction) | skip))))
    · have e : y.id = n := by omega
      refine Qfn.ret1 rfl rfl ⟨_, rfl, ?_, rfl⟩
      rw [List.contains_iff_mem.2 (e ▸ List.mem_of_getElem? hy')]; rfl
    · exact Qloop.normal (i + 1) ⟨rfl, rfl, rfl, trivial⟩ ⟨by omega, take_all hy' hall (decide_eq_false (by omega)), rfl⟩ (by omega)
  · have e : ((l.drop 1).map Ev.id).take i = (l.drop 1).map Ev.id := List.take_of_length_le (by rw [List.length_map, List.length_drop]; omega)
    rw [e] at hall
    refine Qfn.ret1 rfl rfl ⟨_, rfl, ?_, rfl⟩
    have : ((l.drop 1).map Ev.id).contains n = false := by
      rw [Bool.eq_false_iff]; intro e
      have := hall n (List.contains_iff_mem.1 e)
      simp at this
    rw [this]; rfl
end Go.Proofs.YtjaendlcijmifaaDoor

namespace Go.Proofs.YtjaendlcijmifaaDoor
open Go Wk
open Go.RowKit (Below)
attribute [local irreducible] Go.Calls

theorem Wk.Wc.cutL {P : Program} {n : Nat} {ds : List Deferred} {Q : Po} {F : Fr} {w : World} {a b : Code} (l : List (Nat × Value)) (M : World → Prop) (h1 : Wc P n ds (fun e F w => e = .normal ∧ agrees F l ∧ M w) a F w) (h2 : ∀ G w, M w → Wc P n ds Q b (upds G l) w) : Wc P n ds Q (.seq a b) F w := by
  refine Wc.seq ?_
  unfold Wc at h1 ⊢
  refine wp_mono h1 ?_
  rintro e a' w' ⟨F', rfl, rfl, hF, hM⟩
  refine ⟨F', rfl, ?_⟩
  unfold Qseq
  have := h2 F' w' hM
  rw [upds_of_agrees hF] at this
  exact this
section
variable {P : Program} {n : Nat} {ds : List Deferred} {Q : Po} {F : Fr} {w : World} {ops rest : List Oper} {d : Nat} {ty t t' : TypeId} {pos : String} {aft : Array Edge} {C : World → Prop} {K : Fr → Prop}
theorem Wk.Wl.bneq {x y : Operand} {a b : Bool} [ht : Und P t .bool] (hx : ev n F x = .bool a) (hy : ev n F y = .bool b) (c : Wl P n ds Q ops rest (upd F d (.bool !(a == b))) w) : Wl P n ds Q ops (⟨some d, .binOp .neq t x y t', ty, pos, aft, none⟩ :: rest) F w :=
  Wl.val (by simp only [execOp, hx, hy, Sem.run_bind, run_eqGuard_bool, Result.andThen_ok, run_neq_bool w t a b ht.h, Sem.run_pure]) c
theorem Wk.Wq.bneq {x y : Operand} {a b : Bool} [ht : Und P t .bool] (hx : ev n F x = .bool a) (hy : ev n F y = .bool b) (c : Wq P n ds C K ops rest (upd F d (.bool !(a == b)))) : Wq P n ds C K ops (⟨some d, .binOp .neq t x y t', ty, pos, aft, none⟩ :: rest) F :=
  Wq.val (fun w _ => by simp only [execOp, hx, hy, Sem.run_bind, run_eqGuard_bool, Result.andThen_ok, run_neq_bool w t a b ht.h, Sem.run_pure]) c
end
end Go.Proofs.YtjaendlcijmifaaDoor

namespace Go.Proofs.YtjaendlcijmifaaDoor
open Go Wk
open Go.RowKit (Below)
attribute [local irreducible] Go.Calls

deriving instance DecidableEq for Ev
def eqF (d : Nat) (xs ys : Array Value) : List (Bool × TypeId × Nat) → Sem Bool
  | [] => pure true
  | (g, t, o) :: fs =>
    if g = true then do
      let a ← part t xs o
      let b ← part t ys o
      let r ← Op.equalIn d t a b
      if (!r) = true then pure false else eqF d xs ys fs
    else eqF d xs ys fs
theorem eqFields_map {d : Nat} {xs ys : Array Value} : ∀ {fs : List Field} {l : List (Bool × TypeId × Nat)}, fs.map (fun f => (decide (f.name ≠ "_"), f.type, f.offset)) = l → Op.eqFields d xs ys fs = eqF d xs ys l := by
  intro fs
  induction fs with
  | nil => rintro l rfl; rfl
  | cons f fs ih =>
    rintro l rfl
    simp only [List.map_cons, Op.eqFields, eqF, decide_eq_true_eq, ih rfl]
theorem run_eqF_nil {P : Program} {w : World} {d : Nat} {xs ys : Array Value} : (eqF d xs ys []).run P w = .ok true w := rfl
theorem run_eqF {P : Program} {w : World} {d : Nat} {xs ys : Array Value} {t : TypeId} {o : Nat} {a b : Value} {r : Bool} {l : List (Bool × TypeId × Nat)} (hp : P.plainKey t = true) (ha : xs[o]? = some a) (hb : ys[o]? = some b) (hr : (Op.equalIn d t a b).run P w = .ok r w) :
    (eqF d xs ys ((true, t, o) :: l)).run P w = if r = true then (eqF d xs ys l).run P w else .ok false w := by
  simp only [eqF, if_true, Sem.run_bind, run_part_plain w hp ha, run_part_plain w hp hb, Result.andThen_ok, hr]
  cases r <;> simp [Sem.run_pure]
theorem ev_neq {x y : Ev} {w : World} : (binOp .neq 31 (evV x) (evV y)).run Tryd.prog w = .ok (.bool (!decide (x = y))) w := by
  rw [run_neq_struct, run_equalIn_struct w 9999 _ _ _ (by kernel_rfl) (by kernel_rfl), eqFields_map (l := [(true, 27, 0), (true, 27, 1), (true, 2, 2), (true, 5, 3), (true, 9, 4), (true, 2, 5)]) (by kernel_rfl)]
  rw [run_eqF (by kernel_rfl) rfl rfl (run_equalIn_int w 9998 _ .u64 .u64 _ _ Tryd.underlying27), run_eqF (by kernel_rfl) rfl rfl (run_equalIn_int w 9998 _ .u64 .u64 _ _ Tryd.underlying27),
    run_eqF (by kernel_rfl) rfl rfl (run_equalIn_int w 9998 _ .i64 .i64 _ _ Tryd.underlying2), run_eqF (by kernel_rfl) rfl rfl (run_equalIn_int w 9998 _ .u8 .u8 _ _ Tryd.underlying5),
    run_eqF (by kernel_rfl) rfl rfl (run_equalIn_string w 9998 _ _ _ Tryd.underlying9), run_eqF (by kernel_rfl) rfl rfl (run_equalIn_int w 9998 _ .i64 .i64 _ _ Tryd.underlying2), run_eqF_nil]
  simp only [beq_iff_eq, ByteArray.toList_eq]
  obtain ⟨x0, x1, x2, x3, x4, x5⟩ := x
  obtain ⟨y0, y1, y2, y3, y4, y5⟩ := y
  dsimp only
  by_cases h : (⟨x0, x1, x2, x3, x4, x5⟩ : Ev) = ⟨y0, y1, y2, y3, y4, y5⟩
  · rw [decide_eq_true h]
    cases h
    simp
  · rw [decide_eq_false h]
    simp only [Ev.mk.injEq] at h
    repeat' split
    all_goals first | rfl | (exfalso; simp_all; omega) | skip
set_option maxHeartbeats 1000000 in
theorem Same_spec {Pb Pc : Nat → Prop} {w : World} {u v : Value} {a b : List Ev} (h : RdS rEv 6 Pb w u a) (h' : RdS rEv 6 Pc w v b) :
    Calls Tryd.prog 23 #[u, v] w (Ret fun r w' => r = .bool (decide (a = b)) ∧ New w w') := by
  obtain ⟨p, cp, rfl, hc1, hc2⟩ := h.form
  obtain ⟨q, cq, rfl, hd1, hd2⟩ := h'.form
  simp only [maxLen] at hc2 hd2
  refine calls_of_Wc Tryd.func23 rfl Tryd.ntmps23 rfl ?_
  (repeat' (first | refine Wl.moveE (by conv => { lhs; whnf }) ?_ | refine Wl.assignE (by conv => { lhs; whnf }) ?_ | refine Wl.nil ?_ | refine Wl.lenS rfl ?_ | refine Qseq.normal ?_ | refine Wc.seq ?_ | refine Wc.region ?_ | refine Wc.block ?_ | refine Wc.skip ?_ | refine Wc.ret ?_ | refine Qseq.ret ?_ | refine Wc.condT rfl ?_ | refine Wc.condF rfl ?_ | refine Wl.neq rfl rfl (fun _ => ?_) (fun _ => ?_)))
  · refine Qfn.ret1 rfl rfl ⟨_, rfl, ?_, Chg.refl _ _⟩
    rw [decide_eq_false (fun e => by subst e; omega)]; rfl
  · have hl : a.length = b.length := by omega
    refine Wc.loop (σ := Nat) (fun i => [(0, .slice p a.length cp), (1, .slice q b.length cq), (5, vi i)]) (fun i w' => i ≤ a.length ∧ a.take i = b.take i ∧ New w w') (fun i => a.length - i) 0 ⟨rfl, rfl, rfl, trivial⟩ ⟨Nat.zero_le _, rfl, Chg.refl _ _⟩ ?_
    rintro i G w1 ⟨hi, he, n1⟩
    simp only [upds]
    have g := h.keep (stable_flat _) n1.keep
    have g' := h'.keep (stable_flat _) n1.keep
    (repeat' (first | refine Wl.moveE (by conv => { lhs; whnf }) ?_ | refine Wl.assignE (by conv => { lhs; whnf }) ?_ | refine Wl.nil ?_ | refine Wl.lenS rfl ?_ | refine Qseq.normal ?_ | refine Wc.seq ?_ | refine Wc.region ?_ | refine Wc.block ?_ | refine Wc.skip ?_ | refine Wc.exit ?_ | refine Wc.ret ?_ | refine Qseq.exit ?_ | refine Qblk.hit ?_ | refine Qloop.exit ?_ | refine Wc.condT rfl ?_ | refine Wc.condF rfl ?_ | refine Wl.lss rfl rfl (fun _ => ?_) (fun _ => ?_)))
    · obtain ⟨x, hx⟩ := get_lt a (k := i) (by omega)
      obtain ⟨y, hy⟩ := get_lt b (k := i) (by omega)
      refine Wc.regionN rfl (by kernel_rfl) ?_
      (repeat' (refine Wq.moveE (by conv => { lhs; whnf }) ?_))
      refine Wq.idxAddr g (fun w' n => n.keep) rfl rfl (by omega) (by rw [Int.toNat_natCast]; exact hx) fun bb o cs hcl hR hat => ?_
      obtain rfl : cs = evC x := hR
      refine Wq.loadAt hat rfl rfl ?_
      (repeat' (refine Wq.moveE (by conv => { lhs; whnf }) ?_))
      refine Wq.idxAddr g' (fun w' n => n.keep) rfl rfl (by omega) (by rw [Int.toNat_natCast]; exact hy) fun bb' o' cs' hcl' hR' hat' => ?_
      obtain rfl : cs' = evC y := hR'
      refine Wq.loadAt hat' rfl rfl ?_
      refine Wq.val (v := .bool (!decide (x = y))) (fun w' n => ?_) ?_
      · simp only [execOp]
        rw [show ev 26 _ _ = evV x from rfl, show ev 26 _ _ = evV y from rfl]
        rw [Sem.run_bind, Sem.run_bind, run_eqGuard_agg w' _ _ _ _ _ _ (by kernel_rfl), Result.andThen_ok, ev_neq, Result.andThen_ok, Sem.run_pure]
      (repeat' (refine Wq.nil ?_))
      intro w2 n2
      by_cases hxy : x = y
      · subst hxy
        rw [decide_eq_true rfl]
        (repeat' (first | refine Wl.moveE (by conv => { lhs; whnf }) ?_ | refine Wl.assignE (by conv => { lhs; whnf }) ?_ | refine Wl.nil ?_ | refine Qseq.normal ?_ | refine Wc.region ?_ | refine Wc.skip ?_ | refine Qblk.normal ?_ | refine Wc.condF rfl ?_ | refine Wl.add rfl rfl (by omega) (by omega) ?_))
        exact Qloop.normal (i + 1) ⟨rfl, rfl, rfl, trivial⟩ ⟨by omega, take_both he hx hy, n1.trans n2⟩ (by omega)
      · rw [decide_eq_false hxy]
        (repeat' (first | refine Wl.assignE (by conv => { lhs; whnf }) ?_ | refine Wl.nil ?_ | refine Qseq.normal ?_ | refine Wc.seq ?_ | refine Wc.region ?_ | refine Wc.ret ?_ | refine Qseq.ret ?_ | refine Qblk.ret ?_ | refine Qloop.ret ?_ | refine Wc.condT rfl ?_))
        refine Qfn.ret1 rfl rfl ⟨_, rfl, ?_, n1.trans n2⟩
        rw [decide_eq_false (neqL hx hy hxy)]; rfl
    · refine Qfn.ret1 rfl rfl ⟨_, rfl, ?_, n1⟩
      rw [decide_eq_true (take_full hl (by omega) he)]; rfl
/-- A ring is told by its lines. -/
theorem lines_inj {t u : Tr} (ht : TrOk t) (hu : TrOk u) (hs : t.size = u.size) (h : linesM t = linesM u) : t = u := by
  have hl : t.kept.length = u.kept.length := by have := congrArg List.length h; simpa [linesM] using this
  have hk : t.kept = u.kept := by
    apply List.ext_getElem? 
    intro i
    have h1 := congrArg (fun l => l[i]?) h
    simp only [linesM, List.getElem?_map] at h1
    cases hx : t.kept[i]? with
    | none => cases hy : u.kept[i]? with
      | none => rfl
      | some y => rw [hx, hy] at h1; cases h1
    | some x => cases hy : u.kept[i]? with
      | none => rw [hx, hy] at h1; cases h1
      | some y =>
        rw [hx, hy] at h1
        rw [line_inj (ht.evl (List.mem_of_getElem? hx)) (hu.evl (List.mem_of_getElem? hy)) (Option.some.inj h1)]
  have hg : t.gone = u.gone := by
    rcases Nat.eq_zero_or_pos t.kept.length with hz | hz
    · have h1 := ht.full
      have h2 := hu.full
      have h3 := ht.s0
      have h4 := hu.s0
      omega
    · obtain ⟨e, he⟩ := get_lt t.kept (k := 0) hz
      have h1 := ht.ids 0 e he
      have h2 := hu.ids 0 e (hk ▸ he)
      omega
  obtain ⟨a, b, c⟩ := t
  obtain ⟨a', b', c'⟩ := u
  simp only at hs hg hk
  subst hs hg hk
  rfl
end Go.Proofs.YtjaendlcijmifaaDoor

namespace Go.Proofs.YtjaendlcijmifaaDoor
open Go Wk
open Go.RowKit (Below)
attribute [local irreducible] Go.Calls

/-- What the reference has read so far. -/
structure ChQ (ls : List (List UInt8)) (i : Nat) (ks : List Ev) : Prop where
  len : ks.length = i
  lin : ks.map lineM = ls.take i
  evl : ∀ e ∈ ks, EvL e
  nxt : ∀ (j : Nat) (e f : Ev), ks[j]? = some e → ks[j + 1]? = some f → f.id = e.id + 1 ∧ e.tm ≤ f.tm
theorem ChQ.same {i : Nat} {ls : List (List UInt8)} {ks : List Ev} (h : ChQ ls i ks) {t : Tr} (ht : TrOk t) (hl : linesM t = ls) {j : Nat} {e f : Ev} (he : ks[j]? = some e) (hf : t.kept[j]? = some f) : e = f := by
  have h1 : (ks.map lineM)[j]? = some (lineM e) := by rw [List.getElem?_map, he]; rfl
  have h2 : ls[j]? = some (lineM f) := by rw [← hl]; unfold linesM; rw [List.getElem?_map, hf]; rfl
  have hj := (List.getElem?_eq_some_iff.1 he).1
  rw [h.lin, List.getElem?_take, if_pos (by have := h.len; omega), h2] at h1
  exact line_inj (h.evl e (List.mem_of_getElem? he)) (ht.evl (List.mem_of_getElem? hf)) (Option.some.inj h1).symm
theorem ChQ.step {i : Nat} {ls : List (List UInt8)} {ks : List Ev} (h : ChQ ls i ks) {t : Tr} (ht : TrOk t) (hl : linesM t = ls) {s : List UInt8} (hs : ls[i]? = some s) :
    ∃ f, EvL f ∧ lineM f = s ∧ (0 < i → ∀ e, ks[i - 1]? = some e → f.id = e.id + 1 ∧ e.tm ≤ f.tm) := by
  have hlen : t.kept.length = ls.length := by rw [← hl]; simp [linesM]
  have hi := (List.getElem?_eq_some_iff.1 hs).1
  obtain ⟨f, hf⟩ := get_lt t.kept (k := i) (by omega)
  have hfs : lineM f = s := by
    rw [← hl] at hs
    unfold linesM at hs
    rw [List.getElem?_map, hf] at hs
    exact Option.some.inj hs
  refine ⟨f, ht.evl (List.mem_of_getElem? hf), hfs, fun h0 e he => ?_⟩
  obtain ⟨g, hg⟩ := get_lt t.kept (k := i - 1) (by omega)
  rw [h.same ht hl he hg]
  have h1 := ht.ids i f hf
  have h2 := ht.ids (i - 1) g hg
  exact ⟨by omega, ht.tms (i - 1) g f hg (by rw [show i - 1 + 1 = i by omega]; exact hf)⟩
theorem ChQ.next {i : Nat} {ls : List (List UInt8)} {ks : List Ev} (h : ChQ ls i ks) {s : List UInt8} {y : Ev} (hs : ls[i]? = some s) (hy : EvL y) (hys : lineM y = s)
    (h4 : 0 < i → ∀ e, ks[i - 1]? = some e → y.id = e.id + 1 ∧ e.tm ≤ y.tm) : ChQ ls (i + 1) (ks ++ [y]) := by
  have hl := h.len
  refine ⟨by rw [List.length_append, List.length_singleton, hl], ?_, fun e he => ?_, fun j e f he hf => ?_⟩
  · rw [List.map_append, h.lin, take_snoc' hs, ← hys]; rfl
  · rcases List.mem_append.1 he with he | he
    · exact h.evl e he
    · rw [List.mem_singleton.1 he]; exact hy
  · have hj2 := (List.getElem?_eq_some_iff.1 hf).1
    rw [List.length_append, List.length_singleton] at hj2
    rw [List.getElem?_append_left (by omega)] at he
    rcases Nat.lt_or_ge (j + 1) ks.length with hj | hj
    · rw [List.getElem?_append_left hj] at hf
      exact h.nxt j e f he hf
    · have ej : j + 1 = ks.length := by omega
      rw [ej, List.getElem?_append_right (Nat.le_refl _), Nat.sub_self] at hf
      cases hf
      exact h4 (by omega) e (by rw [show i - 1 = j by omega]; exact he)
theorem ChQ.ids {i : Nat} {ls : List (List UInt8)} {ks : List Ev} (h : ChQ ls i ks) {y : Ev} (hy : ks[0]? = some y) : ∀ (j : Nat) (e : Ev), ks[j]? = some e → e.id = y.id - 1 + j + 1
  | 0, e, he => by
    cases hy.symm.trans he
    have := (h.evl y (List.mem_of_getElem? hy)).i0
    omega
  | j + 1, e, he => by
    have hl := (List.getElem?_eq_some_iff.1 he).1
    obtain ⟨d, hd⟩ := get_lt ks (k := j) (by omega)
    have h1 := h.ids hy j d hd
    have h2 := (h.nxt j d e hd he).1
    omega
/-- All lines read: the ring that they tell. -/
theorem ChQ.done {n : Nat} {ls : List (List UInt8)} {ks : List Ev} (h : ChQ ls ls.length ks) (h0 : 1 ≤ n) (h1 : n ≤ 4096) (hl : ls.length ≤ n) {gone : Nat}
    (hg : ∀ y, ks[0]? = some y → gone = y.id - 1) (hz : ks = [] → gone = 0) (hf : 0 < gone → ls.length = n) : TrOk ⟨n, gone, ks⟩ ∧ linesM ⟨n, gone, ks⟩ = ls := by
  refine ChR.done (n := n) (gone := gone) (ls := ls) (ks := ks) ⟨h.len, h.lin, h.evl, fun j e he => ?_, fun j e f he hf => (h.nxt j e f he hf).2, fun e => hz (List.eq_nil_of_length_eq_zero (by have := h.len; omega)), hf⟩ h0 h1 hl
  have hj := (List.getElem?_eq_some_iff.1 he).1
  obtain ⟨y, hy⟩ := get_lt ks (k := 0) (by omega)
  rw [hg y hy]
  exact h.ids hy j e he
/-- What a ring with these lines has. -/
theorem ChQ.ring {ls : List (List UInt8)} {ks : List Ev} (h : ChQ ls ls.length ks) {t : Tr} (ht : TrOk t) (hl : linesM t = ls) {n : Nat} (hn : t.size = n) : ls.length ≤ n ∧ ∀ y, ks[0]? = some y → 1 < y.id → ls.length = n := by
  have hlen : t.kept.length = ls.length := by rw [← hl]; simp [linesM]
  refine ⟨by have := ht.len; omega, fun y hy h1 => ?_⟩
  have hk := h.len
  have h2 := (List.getElem?_eq_some_iff.1 hy).1
  obtain ⟨g, hg⟩ := get_lt t.kept (k := 0) (by omega)
  have e := h.same ht hl hy hg
  subst e
  have h3 := ht.ids 0 y hg
  have := ht.full (by omega)
  omega
/-- The reference's ring while it is being filled. -/
structure RfW (Pb : Nat → Prop) (w : World) (b size : Nat) (v : Value) (ks : List Ev) : Prop where
  hb : Pb b
  bk : Bk w b 85 [vi size, .int .u64 (0 : Nat), v]
  own : OwnS rEv 31 6 Pb No w v ks
  ne : v.ownBlock ≠ some b
theorem RfW.new {Pb : Nat → Prop} {w w' : World} {b size : Nat} {v : Value} {ks : List Ev} (h : RfW Pb w b size v ks) (n : New w w') : RfW Pb w' b size v ks :=
  ⟨h.hb, h.bk.chg n (fun e => e), h.own.new (plain_flat _) n, h.ne⟩
theorem line_q {x : Ev} {W : World} (ht : Tb W) (hw : EvW x) (hl : x.pa.length ≤ 100000000) : ∀ w', New W w' → Calls Tryd.prog 46 ([evV x] : List Value).toArray w' (fun e w'' => e = .returned (vs (lineM x)) ∧ New W w'') := by
  intro w' n
  refine (lineR_spec (ht.new n) hw hl).mono ?_
  rintro e w'' ⟨v, rfl, rfl, n2⟩
  exact ⟨rfl, n.trans n2⟩
theorem KindR_q {k : Nat} {W : World} (hk : k < 256) : ∀ w', New W w' → Calls Tryd.prog 42 ([.int .u8 k] : List Value).toArray w' (fun e w'' => e = .returned (vs (nameK k)) ∧ New W w'') := by
  intro w' n
  refine (KindR_spec hk).mono ?_
  rintro e w'' ⟨v, rfl, rfl, n2⟩
  exact ⟨rfl, n.trans n2⟩
theorem PathR_q {s : List UInt8} {W : World} (hl : s.length ≤ 100000000) : ∀ w', New W w' → Calls Tryd.prog 43 ([vs s] : List Value).toArray w' (fun e w'' => e = .returned (.bool (pathM s)) ∧ New W w'') := by
  intro w' n
  refine (PathR_spec hl).mono ?_
  rintro e w'' ⟨v, rfl, rfl, n2⟩
  exact ⟨rfl, n.trans n2⟩
set_option maxRecDepth 4000 in
set_option maxHeartbeats 4000000 in
theorem ReadR_spec {Pb : Nat → Prop} {w : World} {v : Value} {ls : List (List UInt8)} {n : Int} (ht : Tb w) (hE : ErrV w) (h : RdS (one vs) 1 Pb w v ls) (hls : ∀ s ∈ ls, s.length ≤ 10000000) (hlen : ls.length ≤ 10000000) :
    Calls Tryd.prog 27 #[v, vi n] w (Ret fun r w' => ((r = .tuple #[.pointer none, vi (readE n)] ∧ ∀ t, TrOk t → (t.size : Int) = n → linesM t ≠ ls) ∨ (∃ b t, r = .tuple #[pT b, vi 0] ∧ TrOk t ∧ (t.size : Int) = n ∧ linesM t = ls ∧ Rf (fun k => w.heap.size ≤ k) w' b t)) ∧ New w w') := by
  obtain ⟨a, cp, rfl, hc1, hc2⟩ := h.form
  simp only [maxLen] at hc2
  refine calls_of_Wc Tryd.func27 rfl Tryd.ntmps27 rfl ?_
  (repeat' (first | refine Wl.moveE (by conv => { lhs; whnf }) ?_ | refine Wl.assignE (by conv => { lhs; whnf }) ?_ | refine Wl.nil ?_ | refine Qseq.normal ?_ | refine Wc.seq ?_ | refine Wc.region ?_))
  refine Wl.call (NewR_spec (n := n)) rfl ?_
  rintro r w1 ⟨hr, n1⟩
  rcases hr with ⟨hr, rfl, rfl⟩ | ⟨hn0, hn1, b, rfl, rg⟩
  · (repeat' (first | refine Wl.moveE (by conv => { lhs; whnf }) ?_ | refine Wl.assignE (by conv => { lhs; whnf }) ?_ | refine Wl.nil ?_ | refine Wl.extract rfl rfl ?_ | refine Qseq.normal ?_ | refine Wc.seq ?_ | refine Wc.region ?_ | refine Wc.ret ?_ | refine Qseq.ret ?_ | refine Wc.condT rfl ?_ | (refine Wl.neq rfl rfl (fun _ => ?_) (fun _ => ?_) <;> (first | (exfalso; omega) | skip))))
    refine Qfn.ret2 rfl rfl rfl ⟨_, rfl, .inl ⟨?_, fun t htk hn => ?_⟩, n1⟩
    · unfold readE; rw [if_pos hr]; rfl
    · have := htk.s0
      have := htk.s1
      omega
  obtain ⟨N, rfl⟩ : ∃ N : Nat, n = (N : Int) := ⟨n.toNat, by omega⟩
  have hre : readE (N : Int) = 4 := if_neg (by omega)
  rw [Int.toNat_natCast] at rg
  obtain ⟨v1, rg⟩ := rg
  have rw1 : RfW (fun k => w.heap.size ≤ k) w1 b N v1 [] := ⟨rg.hb, rg.bk, rg.own, rg.ne⟩
  clear rg
  have z1 := n1.size
  (repeat' (first | refine Wl.moveE (by conv => { lhs; whnf }) ?_ | refine Wl.assignE (by conv => { lhs; whnf }) ?_ | refine Wl.nil ?_ | refine Wl.extract rfl rfl ?_ | refine Qseq.normal ?_ | refine Wc.seq ?_ | refine Wc.region ?_ | refine Wc.block ?_ | refine Wc.skip ?_ | refine Wc.condF rfl ?_ | (refine Wl.neq rfl rfl (fun _ => ?_) (fun _ => ?_) <;> (first | (exfalso; omega) | skip))))
  refine Wc.loop (σ := Nat) (fun i => [(0, .slice a ls.length cp), (1, vi N), (6, pT b), (8, vi i)]) (fun i W => i ≤ ls.length ∧ New w W ∧ ∃ vr ks, RfW (fun k => w.heap.size ≤ k) W b N vr ks ∧ ChQ ls i ks) (fun i => ls.length - i) 0 ⟨rfl, rfl, rfl, rfl, trivial⟩
    ⟨Nat.zero_le _, n1, v1, [], rw1, ⟨rfl, by simp, fun e he => (by simp at he), fun j e f he => (by simp at he)⟩⟩ ?_
  clear rw1 n1
  rintro i G W ⟨hi, nW, vr, ks, rg, ch⟩
  simp only [upds]
  have zW := nW.size
  have hksl := ch.len
  (repeat' (first | refine Wl.moveE (by conv => { lhs; whnf }) ?_ | refine Wl.assignE (by conv => { lhs; whnf }) ?_ | refine Wl.nil ?_ | refine Wl.guardY rfl rfl ?_ | refine Wl.guardN rfl rfl ?_ | refine Wl.guardU rfl ?_ | refine Wl.pickTE rfl (by conv => { lhs; whnf }) ?_ | refine Wl.pickFE rfl (by conv => { lhs; whnf }) ?_ | refine Wl.lenS rfl ?_ | refine Qseq.normal ?_ | refine Wc.seq ?_ | refine Wc.region ?_ | refine Wc.block ?_ | refine Wc.skip ?_ | refine Wc.exit ?_ | refine Wc.ret ?_ | refine Qseq.exit ?_ | refine Qseq.ret ?_ | refine Qblk.hit ?_ | refine Qloop.exit ?_ | refine Wc.condT rfl ?_ | refine Wc.condF rfl ?_ | refine Wl.nilP rfl ?_ | refine Wl.fieldAddr rfl rfl ?_ | refine Wl.lss rfl rfl (fun _ => ?_) (fun _ => ?_) | (refine Wl.gtr rfl rfl (fun _ => ?_) (fun _ => ?_) <;> (first | (exfalso; omega) | skip))))
  · obtain ⟨s, hs⟩ := get_lt ls (k := i) (by omega)
    have hsl := hls s (List.mem_of_getElem? hs)
    have hW := h.keep (stable_one _) nW.keep
    refine Wl.idxAddrV hW rfl rfl (by omega) (by rw [Int.toNat_natCast]; exact hs) fun bb o hc => ?_
    refine Wl.load1 rfl hc ?_
    refine Wl.call (guess_spec (hE.new nW) hsl) rfl ?_
    rintro _ W1 ⟨⟨y, rfl, hyW, hyl, hyk⟩, m1⟩
    refine Wl.alloc fun W2 b2 m2 s2 => ?_
    refine Wl.storeB (o := 0) (new := evC y) b2 rfl rfl rfl rfl (Nat.le_refl 6) (evC_one _) fun W3 b3 c3 s3 => ?_
    replace b3 : Bk W3 W1.heap.size 31 (evC y) := b3
    have m13 : New W1 W3 := Chg.trans m2 c3 fun _ _ e => by omega
    have m03 := m1.trans m13
    have rg3 := rg.new m03
    have n3 := nW.trans m03
    have h3 := hW.keep (stable_one _) m03.keep
    have zm := m1.size
    have hbW := rg.bk.lt
    have hvr0 : ∀ k, vr.ownBlock = some k → k < W1.heap.size := fun k hk => by have := (rg.own.lt hk).2; omega
    clear b2 m2 c3 s2 s3 m1 m13 m03 rg nW hc hW
    have stop : (∀ t : Tr, TrOk t → (t.size : Int) = (N : Int) → linesM t = ls → False) → ∀ F W', F 4 = .pointer none → F 5 = vi 4 → New W3 W' → Qfn Tryd.prog 146 Tryd.f27 (Ret fun r w' => ((r = .tuple #[.pointer none, vi (readE (N : Int))] ∧ ∀ t, TrOk t → (t.size : Int) = (N : Int) → linesM t ≠ ls) ∨ (∃ b t, r = .tuple #[pT b, vi 0] ∧ TrOk t ∧ (t.size : Int) = (N : Int) ∧ linesM t = ls ∧ Rf (fun k => w.heap.size ≤ k) w' b t)) ∧ New w w') .ret F W' := fun hno F W' h4 h5 m =>
      Qfn.ret2 (t := 4) (u := 5) rfl rfl rfl ⟨_, rfl, .inl ⟨by rw [h4, h5, hre], fun t h1 h2 h3 => hno t h1 h2 h3⟩, n3.trans m⟩
    have bad : (∀ x, EvL x → lineM x ≠ s) → ∀ t : Tr, TrOk t → (t.size : Int) = (N : Int) → linesM t = ls → False := fun hx t h1 _ h3 => by
      obtain ⟨f, hf, hfs, _⟩ := ch.step h1 h3 hs
      exact hx f hf hfs
    (repeat' (first | refine Wl.nil ?_ | refine Qseq.normal ?_))
    refine Wc.cutR (fun F W' => agrees F [(0, .slice a ls.length cp), (1, vi N), (6, pT b), (8, vi i), (9, pT W1.heap.size)] ∧ New W3 W' ∧ EvL y ∧ lineM y = s) ?_ ?_
    · (repeat' (refine Wc.seq ?_))
      refine Wc.regionN rfl (by kernel_rfl) ?_
      refine Wq.loadAt (fun w' n => (b3.chg n (fun e => e)).at) rfl rfl ?_
      refine Wq.call (line_q (ht.new n3) hyW (by omega)) rfl ?_
      (repeat' (refine Wq.moveE (by conv => { lhs; whnf }) ?_))
      refine Wq.idxAddrV h3 (fun w' n => n.keep) rfl rfl (by omega) (by rw [Int.toNat_natCast]; exact hs) fun bb o hc => ?_
      refine Wq.load1 rfl hc ?_
      by_cases hline : lineM y = s
      rotate_left
      · have hf := bad fun x hx e => hline (by rw [← hyk x hx e]; exact e)
        refine Wq.sneq rfl rfl (fun _ => ?_) (fun e => absurd e hline)
        (repeat' (first | refine Wq.moveE (by conv => { lhs; whnf }) ?_ | refine Wq.nil ?_ | refine Wq.guardN rfl rfl ?_ | refine Wq.pickTE rfl (by conv => { lhs; whnf }) ?_))
        intro W4 n4
        (repeat' (first | refine Wl.assignE (by conv => { lhs; whnf }) ?_ | refine Wl.nil ?_ | refine Qseq.normal ?_ | refine Wc.seq ?_ | refine Wc.region ?_ | refine Wc.ret ?_ | refine Qseq.ret ?_ | refine Qblk.ret ?_ | refine Qloop.ret ?_ | refine Wc.condT rfl ?_ | refine Qm.ret ?_))
        exact stop hf _ _ rfl rfl n4
      refine Wq.sneq rfl rfl (fun e => absurd hline e) (fun _ => ?_)
      (repeat' (first | refine Wq.moveE (by conv => { lhs; whnf }) ?_ | refine Wq.guardY rfl rfl ?_ | refine Wq.fieldAddr rfl rfl ?_))
      refine Wq.load1 (u := .int .u8 y.kd) rfl (fun w' n => (b3.chg n (fun e => e)).cell (o := 3) rfl) ?_
      (try refine Wq.guardY rfl rfl ?_)
      refine Wq.call (KindR_q hyW.kd) rfl ?_
      by_cases hkd : nameK y.kd = []
      · have hf := bad fun x hx e => hx.k (by rw [hyk x hx e]; exact hkd)
        (try refine Wq.guardY rfl rfl ?_)
        refine Wq.seql (a := nameK y.kd) (b := []) rfl rfl (fun _ => ?_) (fun e => absurd hkd e)
        (repeat' (first | refine Wq.moveE (by conv => { lhs; whnf }) ?_ | refine Wq.nil ?_ | refine Wq.guardN rfl rfl ?_ | refine Wq.pickTE rfl (by conv => { lhs; whnf }) ?_ | refine Wq.pickFE rfl (by conv => { lhs; whnf }) ?_))
        intro W4 n4
        (repeat' (first | refine Wl.assignE (by conv => { lhs; whnf }) ?_ | refine Wl.nil ?_ | refine Qseq.normal ?_ | refine Wc.seq ?_ | refine Wc.region ?_ | refine Wc.ret ?_ | refine Qseq.ret ?_ | refine Qblk.ret ?_ | refine Qloop.ret ?_ | refine Wc.condT rfl ?_ | refine Qm.ret ?_))
        exact stop hf _ _ rfl rfl n4
      (try refine Wq.guardY rfl rfl ?_)
      refine Wq.seql (a := nameK y.kd) (b := []) rfl rfl (fun e => absurd e hkd) (fun _ => ?_)
      (repeat' (first | refine Wq.moveE (by conv => { lhs; whnf }) ?_ | refine Wq.guardY rfl rfl ?_ | refine Wq.pickFE rfl (by conv => { lhs; whnf }) ?_ | refine Wq.fieldAddr rfl rfl ?_))
      refine Wq.load1 (u := vs y.pa) rfl (fun w' n => (b3.chg n (fun e => e)).cell (o := 4) rfl) ?_
      (try refine Wq.guardY rfl rfl ?_)
      refine Wq.call (PathR_q (s := y.pa) (by omega)) rfl ?_
      cases hpp : pathM y.pa with
      | false =>
        have hf := bad fun x hx e => by
          have h1 := hx.p
          rw [hyk x hx e, hpp] at h1
          cases h1
        (repeat' (first | refine Wq.moveE (by conv => { lhs; whnf }) ?_ | refine Wq.nil ?_ | refine Wq.guardY rfl rfl ?_ | refine Wq.guardN rfl rfl ?_ | refine Wq.pickTE rfl (by conv => { lhs; whnf }) ?_ | refine Wq.pickFE rfl (by conv => { lhs; whnf }) ?_ | refine Wq.notB rfl ?_))
        intro W4 n4
        (repeat' (first | refine Wl.assignE (by conv => { lhs; whnf }) ?_ | refine Wl.nil ?_ | refine Qseq.normal ?_ | refine Wc.seq ?_ | refine Wc.region ?_ | refine Wc.ret ?_ | refine Qseq.ret ?_ | refine Qblk.ret ?_ | refine Qloop.ret ?_ | refine Wc.condT rfl ?_ | refine Qm.ret ?_))
        exact stop hf _ _ rfl rfl n4
      | true =>
        (repeat' (first | refine Wq.moveE (by conv => { lhs; whnf }) ?_ | refine Wq.guardY rfl rfl ?_ | refine Wq.pickFE rfl (by conv => { lhs; whnf }) ?_ | refine Wq.notB rfl ?_ | refine Wq.fieldAddr rfl rfl ?_))
        refine Wq.load1 (u := .int .u64 y.id) rfl (fun w' n => (b3.chg n (fun e => e)).cell (o := 0) rfl) ?_
        (repeat' (first | refine Wq.moveE (by conv => { lhs; whnf }) ?_ | refine Wq.nil ?_ | refine Wq.guardY rfl rfl ?_ | refine Wq.guardN rfl rfl ?_ | refine Wq.pickTE rfl (by conv => { lhs; whnf }) ?_ | refine Wq.pickFE rfl (by conv => { lhs; whnf }) ?_ | refine Wq.fieldAddr rfl rfl ?_ | refine Wq.lss rfl rfl (fun _ => ?_) (fun _ => ?_)))
        · have hf := bad fun x hx e => by
            have h1 := hx.i0
            rw [hyk x hx e] at h1
            omega
          intro W4 n4
          (repeat' (first | refine Wl.assignE (by conv => { lhs; whnf }) ?_ | refine Wl.nil ?_ | refine Qseq.normal ?_ | refine Wc.seq ?_ | refine Wc.region ?_ | refine Wc.ret ?_ | refine Qseq.ret ?_ | refine Qblk.ret ?_ | refine Qloop.ret ?_ | refine Wc.condT rfl ?_ | refine Qm.ret ?_))
          exact stop hf _ _ rfl rfl n4
        refine Wq.load1 (u := .int .u64 y.id) rfl (fun w' n => (b3.chg n (fun e => e)).cell (o := 0) rfl) ?_
        (repeat' (first | refine Wq.moveE (by conv => { lhs; whnf }) ?_ | refine Wq.nil ?_ | refine Wq.guardY rfl rfl ?_ | refine Wq.guardN rfl rfl ?_ | refine Wq.pickTE rfl (by conv => { lhs; whnf }) ?_ | refine Wq.pickFE rfl (by conv => { lhs; whnf }) ?_ | refine Wq.fieldAddr rfl rfl ?_ | refine Wq.gtr rfl rfl (fun _ => ?_) (fun _ => ?_)))
        · have hf := bad fun x hx e => by
            have h1 := hx.i1
            rw [hyk x hx e] at h1
            omega
          intro W4 n4
          (repeat' (first | refine Wl.assignE (by conv => { lhs; whnf }) ?_ | refine Wl.nil ?_ | refine Qseq.normal ?_ | refine Wc.seq ?_ | refine Wc.region ?_ | refine Wc.ret ?_ | refine Qseq.ret ?_ | refine Qblk.ret ?_ | refine Qloop.ret ?_ | refine Wc.condT rfl ?_ | refine Qm.ret ?_))
          exact stop hf _ _ rfl rfl n4
        refine Wq.load1 (u := .int .u64 y.ca) rfl (fun w' n => (b3.chg n (fun e => e)).cell (o := 1) rfl) ?_
        (repeat' (first | refine Wq.guardY rfl rfl ?_ | refine Wq.fieldAddr rfl rfl ?_))
        refine Wq.load1 (u := .int .u64 y.id) rfl (fun w' n => (b3.chg n (fun e => e)).cell (o := 0) rfl) ?_
        (repeat' (first | refine Wq.nil ?_ | refine Wq.guardY rfl rfl ?_ | refine Wq.pickFE rfl (by conv => { lhs; whnf }) ?_ | refine Wq.geq rfl rfl (fun _ => ?_) (fun _ => ?_)))
        · have hf := bad fun x hx e => by
            have h1 := hx.c
            rw [hyk x hx e] at h1
            omega
          intro W4 n4
          (repeat' (first | refine Wl.assignE (by conv => { lhs; whnf }) ?_ | refine Wl.nil ?_ | refine Qseq.normal ?_ | refine Wc.seq ?_ | refine Wc.region ?_ | refine Wc.ret ?_ | refine Qseq.ret ?_ | refine Qblk.ret ?_ | refine Qloop.ret ?_ | refine Wc.condT rfl ?_ | refine Qm.ret ?_))
          exact stop hf _ _ rfl rfl n4
        · intro W4 n4
          (repeat' (first | refine Qseq.normal ?_ | refine Wc.skip ?_ | refine Wc.condF rfl ?_))
          exact Qm.normal ⟨⟨rfl, rfl, rfl, rfl, rfl, trivial⟩, n4, ⟨hyW, hkd, hpp, by omega, by omega, by omega⟩, hline⟩
    · rintro F4 W4 ⟨ag, n4, hy, hys⟩
      refine Wc.frame _ ag fun G4 => ?_
      simp only [upds]
      have rg4 := rg3.new n4
      have b4 := b3.chg n4 (fun e => e)
      replace n4 := n3.trans n4
      replace stop : (∀ t : Tr, TrOk t → (t.size : Int) = (N : Int) → linesM t = ls → False) → ∀ F W', F 4 = .pointer none → F 5 = vi 4 → New W4 W' → Qfn Tryd.prog 146 Tryd.f27 (Ret fun r w' => ((r = .tuple #[.pointer none, vi (readE (N : Int))] ∧ ∀ t, TrOk t → (t.size : Int) = (N : Int) → linesM t ≠ ls) ∨ (∃ b t, r = .tuple #[pT b, vi 0] ∧ TrOk t ∧ (t.size : Int) = (N : Int) ∧ linesM t = ls ∧ Rf (fun k => w.heap.size ≤ k) w' b t)) ∧ New w w') .ret F W' := fun hno F W' h4 h5 m =>
        Qfn.ret2 (t := 4) (u := 5) rfl rfl rfl ⟨_, rfl, .inl ⟨by rw [h4, h5, hre], fun t h1 h2 h3 => hno t h1 h2 h3⟩, n4.trans m⟩
      clear rg3 b3 n3 ag bad h3
      have z4 := n4.size
      have hyi := hy.i1
      have hyi0 := hy.i0
      obtain ⟨va, vc, hvr, hvc1, hvc2⟩ := rg4.own.form
      have r4 := rg4.own.rd goodEv.mo
      refine Wc.cutR (fun F W' => agrees F [(0, .slice a ls.length cp), (1, vi N), (6, pT b), (8, vi i), (9, pT W1.heap.size)] ∧ New W4 W' ∧ (0 < i → ∀ e, ks[i - 1]? = some e → y.id = e.id + 1 ∧ e.tm ≤ y.tm)) ?_ ?_
      · (repeat' (refine Wc.seq ?_))
        refine Wc.regionN rfl (by kernel_rfl) ?_
        rcases Nat.eq_zero_or_pos i with hi0 | hi0
        · subst hi0
          (repeat' (first | refine Wq.moveE (by conv => { lhs; whnf }) ?_ | refine Wq.nil ?_ | refine Wq.guardN rfl rfl ?_ | refine Wq.guardU rfl ?_ | refine Wq.pickFE rfl (by conv => { lhs; whnf }) ?_ | (refine Wq.gtr rfl rfl (fun _ => ?_) (fun _ => ?_) <;> (first | (exfalso; omega) | skip))))
          intro W5 n5
          (repeat' (first | refine Qseq.normal ?_ | refine Wc.skip ?_ | refine Wc.condF rfl ?_))
          exact Qm.normal ⟨⟨rfl, rfl, rfl, rfl, rfl, trivial⟩, n5, fun h => absurd h (Nat.lt_irrefl _)⟩
        obtain ⟨x, hx⟩ := get_lt ks (k := i - 1) (by omega)
        have hxl := (ch.evl x (List.mem_of_getElem? hx)).i1
        have stop2 : (y.id = x.id + 1 → x.tm ≤ y.tm → False) → ∀ t : Tr, TrOk t → (t.size : Int) = (N : Int) → linesM t = ls → False := fun hno t h1 _ h3 => by
          obtain ⟨f, hf, hfs, hf0⟩ := ch.step h1 h3 hs
          have e := line_inj hf hy (hfs.trans hys.symm)
          subst e
          obtain ⟨k1, k2⟩ := hf0 hi0 x hx
          exact hno k1 k2
        (repeat' (first | refine Wq.moveE (by conv => { lhs; whnf }) ?_ | refine Wq.guardY rfl rfl ?_ | refine Wq.fieldAddr rfl rfl ?_ | (refine Wq.gtr rfl rfl (fun _ => ?_) (fun _ => ?_) <;> (first | (exfalso; omega) | skip))))
        refine Wq.load1 (u := .int .u64 y.id) rfl (fun w' n => (b4.chg n (fun e => e)).cell (o := 0) rfl) ?_
        (repeat' (first | refine Wq.moveE (by conv => { lhs; whnf }) ?_ | refine Wq.guardY rfl rfl ?_ | refine Wq.nilP rfl ?_ | refine Wq.fieldAddr rfl rfl ?_))
        refine Wq.load1 (u := vr) rfl (fun w' n => (rg4.new n).bk.cell (o := 2) rfl) ?_
        (repeat' (first | refine Wq.moveE (by conv => { lhs; whnf }) ?_ | refine Wq.guardY rfl rfl ?_ | refine Wq.sub rfl rfl (by omega) (by omega) ?_))
        refine Wq.idxAddr r4 (fun w' n => n.keep) rfl rfl (by omega) (by rw [show ((i : Int) - 1).toNat = i - 1 by omega]; exact hx) fun bb o cs hcl hR hat => ?_
        obtain rfl : cs = evC x := hR
        (repeat' (first | refine Wq.guardY rfl rfl ?_ | refine Wq.fieldAddr rfl rfl ?_))
        refine Wq.load1 (u := .int .u64 x.id) rfl (fun w' n => (hat w' n).get 0 rfl) ?_
        (repeat' (refine Wq.guardY rfl rfl ?_))
        refine Wq.addW rfl rfl ?_
        rw [show (x.id : Int) + 1 = ((x.id + 1 : Nat) : Int) by omega, wu (by omega) (by omega)]
        (repeat' (first | refine Wq.moveE (by conv => { lhs; whnf }) ?_ | refine Wq.nil ?_ | refine Wq.guardY rfl rfl ?_ | refine Wq.guardN rfl rfl ?_ | refine Wq.pickTE rfl (by conv => { lhs; whnf }) ?_ | refine Wq.fieldAddr rfl rfl ?_ | refine Wq.neq rfl rfl (fun _ => ?_) (fun _ => ?_)))
        · intro W5 n5
          (repeat' (first | refine Wl.assignE (by conv => { lhs; whnf }) ?_ | refine Wl.nil ?_ | refine Qseq.normal ?_ | refine Wc.seq ?_ | refine Wc.region ?_ | refine Wc.ret ?_ | refine Qseq.ret ?_ | refine Qblk.ret ?_ | refine Qloop.ret ?_ | refine Wc.condT rfl ?_ | refine Qm.ret ?_))
          exact stop (stop2 fun k1 _ => by omega) _ _ rfl rfl n5
        refine Wq.load1 (u := vi y.tm) rfl (fun w' n => (b4.chg n (fun e => e)).cell (o := 2) rfl) ?_
        (repeat' (first | refine Wq.moveE (by conv => { lhs; whnf }) ?_ | refine Wq.guardY rfl rfl ?_ | refine Wq.nilP rfl ?_ | refine Wq.fieldAddr rfl rfl ?_))
        refine Wq.load1 (u := vr) rfl (fun w' n => (rg4.new n).bk.cell (o := 2) rfl) ?_
        (repeat' (first | refine Wq.moveE (by conv => { lhs; whnf }) ?_ | refine Wq.guardY rfl rfl ?_ | refine Wq.sub rfl rfl (by omega) (by omega) ?_))
        refine Wq.idxAddr r4 (fun w' n => n.keep) rfl rfl (by omega) (by rw [show ((i : Int) - 1).toNat = i - 1 by omega]; exact hx) fun bb o cs hcl hR hat => ?_
        obtain rfl : cs = evC x := hR
        (repeat' (first | refine Wq.guardY rfl rfl ?_ | refine Wq.fieldAddr rfl rfl ?_))
        refine Wq.load1 (u := vi x.tm) rfl (fun w' n => (hat w' n).get 2 rfl) ?_
        (repeat' (first | refine Wq.nil ?_ | refine Wq.guardY rfl rfl ?_ | refine Wq.pickTE rfl (by conv => { lhs; whnf }) ?_ | refine Wq.pickFE rfl (by conv => { lhs; whnf }) ?_ | refine Wq.lss rfl rfl (fun _ => ?_) (fun _ => ?_)))
        · intro W5 n5
          (repeat' (first | refine Wl.assignE (by conv => { lhs; whnf }) ?_ | refine Wl.nil ?_ | refine Qseq.normal ?_ | refine Wc.seq ?_ | refine Wc.region ?_ | refine Wc.ret ?_ | refine Qseq.ret ?_ | refine Qblk.ret ?_ | refine Qloop.ret ?_ | refine Wc.condT rfl ?_ | refine Qm.ret ?_))
          exact stop (stop2 fun _ k2 => by omega) _ _ rfl rfl n5
        · intro W5 n5
          (repeat' (first | refine Qseq.normal ?_ | refine Wc.skip ?_ | refine Wc.condF rfl ?_))
          exact Qm.normal ⟨⟨rfl, rfl, rfl, rfl, rfl, trivial⟩, n5, fun _ e he => by cases hx.symm.trans he; exact ⟨by omega, by omega⟩⟩
      · rintro F5 W5 ⟨ag, n5, hA⟩
        refine Wc.frame _ ag fun G5 => ?_
        simp only [upds]
        have rg5 := rg4.new n5
        have b5 := b4.chg n5 (fun e => e)
        replace n5 := n4.trans n5
        clear stop rg4 b4 n4 ag r4
        have z5 := n5.size
        have hb5 := rg5.bk.lt
        have hvlt : ∀ k, vr.ownBlock = some k → w.heap.size ≤ k ∧ k < W5.heap.size := fun k hk => rg5.own.lt hk
        have hne := rg5.ne
        have hxne : ∀ k, vr.ownBlock = some k → k ≠ W1.heap.size := fun k hk => by
          have := hvr0 k hk; omega
        skip
        refine Wc.regionT rfl (by kernel_rfl) (fun w' => Chg (fun k => vr.ownBlock = some k) W5 w') (Chg.drew _ _) ?_
        intro w9 n9
        have bk : ∀ w', Chg (fun k => vr.ownBlock = some k) W5 w' → Bk w' b 85 [vi N, .int .u64 (0 : Nat), vr] := fun w' c => rg5.bk.chg c hne
        have bx : ∀ w', Chg (fun k => vr.ownBlock = some k) W5 w' → Bk w' W1.heap.size 31 (evC y) := fun w' c => b5.chg c fun e => hxne _ e rfl
        (repeat' (first | refine Wt.quiet rfl (Wq.moveE (by conv => { lhs; whnf }) (Wq.nil ?_)) | refine Wt.quiet rfl (Wq.nilP rfl (Wq.nil ?_)) | refine Wt.quiet rfl (Wq.fieldAddr rfl rfl (Wq.nil ?_))))
        refine Wt.quiet rfl (Wq.load1 rfl (fun w' c => (bk w' c).cell (o := 2) rfl) (Wq.nil ?_))
        skip
        refine Wt.quiet rfl (Wq.loadAt (fun w' c => (bx w' c).at) rfl rfl (Wq.nil ?_))
        have h9 := rg5.new n9
        refine Wt.chain rfl (Wl.buildSlice1 (R := rEv) (Pe := fun _ => False) (y := y) goodEv rfl rfl rfl rfl (by omega) (by omega) fun v4 w10 o4 n10 s10 e10 => ?_)
        have n810 := n9.trans n10
        have h10 := h9.new n10
        refine Wl.nil ⟨rfl, n810.any, ?_⟩
        refine Wt.chain rfl (Wl.appendAll (R := rEv) goodEv h10.own (o4.rd goodEv.mo) (fun y cs hy => hy) rfl rfl (by omega) (by simp only [maxLen, List.length_singleton]; omega) (by simp only [List.length_singleton]; omega) fun v5 w11 o5 c11 lie _ => ?_)
        have c811 : Chg (fun k => vr.ownBlock = some k) W5 w11 := Chg.trans n810.any c11 fun k _ e => e
        refine Wl.nil ⟨rfl, c811, ?_⟩
        have bk11 := bk w11 c811
        (repeat' (first | refine Wt.quiet rfl (Wq.nilP rfl (Wq.nil ?_)) | refine Wt.quiet rfl (Wq.fieldAddr rfl rfl (Wq.nil ?_))))
        refine Wt.last rfl (Wl.store1 bk11 rfl (by simp) rfl (by obtain ⟨_, _, rfl, _⟩ := o5.form; rfl) fun w12 b12 c12 => ?_)
        have s811 := c811.size
        have s9 := n9.size
        have s910 := n810.size
        have hv5 : ∀ k, v5.ownBlock = some k → k ≠ b := by
          intro k hk
          rcases lie with lie | lie
          · rw [lie] at hk; exact fun e => hne (e ▸ hk)
          · have := lie k hk; omega
        have c812 : Chg (fun k => vr.ownBlock = some k ∨ k = b) W5 w12 := Chg.trans (c811.mono fun _ _ e => .inl e) c12 fun _ _ e => .inr e
        have hbb := rg5.hb
        have cf : New w w12 := Chg.trans n5 c812 fun k hk e => by
          rcases e with e | rfl
          · have := hvlt k e; omega
          · omega
        have o12 := (o5.chg (plain_flat _) c12 fun k hk e => hv5 k hk e).mono goodEv.mo (Pb' := fun k => w.heap.size ≤ k) (fun k _ hk => by rcases hk with hk | hk <;> omega) fun _ _ e => e
        (repeat' (first | refine Wl.moveE (by conv => { lhs; whnf }) ?_ | refine Wl.assignE (by conv => { lhs; whnf }) ?_ | refine Wl.nil ?_ | refine Qseq.normal ?_ | refine Wc.region ?_ | refine Qblk.normal ?_ | refine Wl.add rfl rfl (by omega) (by omega) ?_))
        exact Qloop.normal (i + 1) ⟨rfl, rfl, rfl, rfl, trivial⟩ ⟨by omega, cf, v5, ks ++ [y], ⟨hbb, b12, o12, fun e => hv5 b e rfl⟩, ch.next hs hy hys hA⟩ (by omega)
  all_goals
    have e : i = ls.length := by omega
    subst e
    have hring : ∀ t : Tr, TrOk t → (t.size : Int) = (N : Int) → linesM t = ls → ls.length ≤ N ∧ ∀ y, ks[0]? = some y → 1 < y.id → ls.length = N := fun t h1 h2 h3 => ch.ring h1 h3 (by omega)
    have stop : (∀ t : Tr, TrOk t → (t.size : Int) = (N : Int) → linesM t = ls → False) → ∀ F, F 4 = .pointer none → F 5 = vi 4 → Qfn Tryd.prog 146 Tryd.f27 (Ret fun r w' => ((r = .tuple #[.pointer none, vi (readE (N : Int))] ∧ ∀ t, TrOk t → (t.size : Int) = (N : Int) → linesM t ≠ ls) ∨ (∃ b t, r = .tuple #[pT b, vi 0] ∧ TrOk t ∧ (t.size : Int) = (N : Int) ∧ linesM t = ls ∧ Rf (fun k => w.heap.size ≤ k) w' b t)) ∧ New w w') .ret F W := fun hno F h4 h5 =>
      Qfn.ret2 (t := 4) (u := 5) rfl rfl rfl ⟨_, rfl, .inl ⟨by rw [h4, h5, hre], fun t h1 h2 h3 => hno t h1 h2 h3⟩, nW⟩
    obtain ⟨va, vc, rfl, hvc1, hvc2⟩ := rg.own.form
  · exact stop (fun t h1 h2 h3 => by have := (hring t h1 h2 h3).1; omega) _ rfl rfl
  · obtain ⟨y, hy⟩ := get_lt ks (k := 0) (by omega)
    have hyl := (ch.evl y (List.mem_of_getElem? hy))
    have hyi := hyl.i1
    have hyi0 := hyl.i0
    refine Wl.load1 rfl (rg.bk.cell (o := 2) rfl) ?_
    (repeat' (refine Wl.guardY rfl rfl ?_))
    refine Wl.idxAddr (rg.own.rd goodEv.mo) rfl rfl (by omega) hy fun bb o cs hcl hR hat => ?_
    obtain rfl : cs = evC y := hR
    (repeat' (first | refine Wl.guardY rfl rfl ?_ | refine Wl.fieldAddr rfl rfl ?_))
    refine Wl.load1 (u := .int .u64 y.id) rfl (hat.get 0 rfl) ?_
    (repeat' (first | refine Wl.moveE (by conv => { lhs; whnf }) ?_ | refine Wl.assignE (by conv => { lhs; whnf }) ?_ | refine Wl.nil ?_ | refine Wl.guardY rfl rfl ?_ | refine Wl.guardN rfl rfl ?_ | refine Wl.pickTE rfl (by conv => { lhs; whnf }) ?_ | refine Wl.pickFE rfl (by conv => { lhs; whnf }) ?_ | refine Wl.lenS rfl ?_ | refine Qseq.normal ?_ | refine Wc.seq ?_ | refine Wc.region ?_ | refine Wc.skip ?_ | refine Wc.ret ?_ | refine Qseq.ret ?_ | refine Wc.condT rfl ?_ | refine Wc.condF rfl ?_ | refine Wl.nilP rfl ?_ | refine Wl.fieldAddr rfl rfl ?_ | refine Wl.lss rfl rfl (fun _ => ?_) (fun _ => ?_) | (refine Wl.gtr rfl rfl (fun _ => ?_) (fun _ => ?_) <;> (first | (exfalso; omega) | skip))))
    · exact stop (fun t h1 h2 h3 => by have := (hring t h1 h2 h3).2 y hy (by omega); omega) _ rfl rfl
    all_goals
      refine Wl.load1 rfl (rg.bk.cell (o := 2) rfl) ?_
      skip
      refine Wl.idxAddr (rg.own.rd goodEv.mo) rfl rfl (by omega) hy fun bb o cs hcl hR hat => ?_
      obtain rfl : cs = evC y := hR
      (repeat' (refine Wl.fieldAddr rfl rfl ?_))
      refine Wl.load1 (u := .int .u64 y.id) rfl (hat.get 0 rfl) ?_
      refine Wl.subW rfl rfl ?_
      rw [show ((y.id : Nat) : Int) - 1 = ((y.id - 1 : Nat) : Int) by omega, wu (by omega) (by omega)]
      (repeat' (first | refine Wl.nilP rfl ?_ | refine Wl.fieldAddr rfl rfl ?_))
      refine Wl.store1 rg.bk rfl (by simp) rfl rfl fun W5 b5 c5 => ?_
      have hne := rg.ne
      have hb := rg.hb
      (repeat' (first | refine Wl.moveE (by conv => { lhs; whnf }) ?_ | refine Wl.assignE (by conv => { lhs; whnf }) ?_ | refine Wl.nil ?_ | refine Qseq.normal ?_ | refine Wc.seq ?_ | refine Wc.region ?_ | refine Wc.ret ?_))
      obtain ⟨h1, h2⟩ := ch.done (n := N) (gone := y.id - 1) (by omega) (by omega) (by omega) (fun y' h => by cases hy.symm.trans h; rfl) (fun e => by rw [e] at hy; cases hy) (fun h => by omega)
      exact Qfn.ret2 rfl rfl rfl ⟨_, rfl, .inr ⟨b, ⟨N, y.id - 1, ks⟩, rfl, h1, rfl, h2, _, h1, hb, b5, rg.own.chg (plain_flat _) c5 fun k hk e => hne (e ▸ hk), hne⟩, Chg.trans nW c5 fun k hk e => by omega⟩
  · have hk0 : ks = [] := List.eq_nil_of_length_eq_zero (by omega)
    obtain ⟨h1, h2⟩ := ch.done (n := N) (gone := 0) (by omega) (by omega) (by omega) (fun y' h => by rw [hk0] at h; cases h) (fun _ => rfl) (fun h => by omega)
    exact Qfn.ret2 rfl rfl rfl ⟨_, rfl, .inr ⟨b, ⟨N, 0, ks⟩, rfl, h1, rfl, h2, _, h1, rg.hb, rg.bk, rg.own, rg.ne⟩, nW⟩
end Go.Proofs.YtjaendlcijmifaaDoor

namespace Go.Proofs.YtjaendlcijmifaaDoor
open Go Wk
open Go.RowKit (Below)
attribute [local irreducible] Go.Calls

/-- The numbers in a Why fall. -/
theorem why_falls {t : Tr} (h : TrOk t) {x : Ev} (hx : x ∈ t.kept) : ∀ (j i : Nat) (e f : Ev), i < j → (why t x)[i]? = some e → (why t x)[j]? = some f → f.id < e.id
  | 0, i, _, _, hij, _, _ => absurd hij (Nat.not_lt_zero _)
  | j + 1, i, e, f, hij, he, hf => by
    have hw := why_ok h x.id x (Nat.le_refl _) hx
    have hl := (List.getElem?_eq_some_iff.1 hf).1
    rcases Nat.lt_or_ge i j with hlt | hge
    · obtain ⟨g, hg⟩ := get_lt (why t x) (k := j) (by omega)
      have h1 := why_falls h hx j i e g hlt he hg
      have h2 := (hw.fall j g f hg hf).1
      omega
    · obtain rfl : i = j := by omega
      exact (hw.fall i e f he hf).1
/-- One more event: it is led to just if the number stands in its Why. -/
theorem ledS_next {t : Tr} (h : TrOk t) {id : Nat} (hid : t.gone < id) {k : Nat} {y : Ev} (hy : t.kept[k]? = some y) :
    ledS id (t.kept.take (k + 1)) = if id ∈ tailIds t y then ledS id (t.kept.take k) ++ [y.id] else ledS id (t.kept.take k) := by
  have hk := (List.getElem?_eq_some_iff.1 hy).1
  have h1 := led_why h hid (k + 1) (by omega) k y (by omega) hy
  have h2 := ledS_snoc (id := id) hy
  obtain ⟨h3, _⟩ := ledS_inv h id k (by omega)
  have h4 := h.ids k y hy
  by_cases hc : (id :: ledS id (t.kept.take k)).contains y.ca = true
  · rw [if_pos hc] at h2
    rw [if_pos (h1.1 (by rw [h2]; simp)), h2]
  · rw [if_neg hc] at h2
    rw [if_neg (fun e => ?_), h2]
    have h5 := h1.2 e
    rw [h2] at h5
    have := (h3 _ h5).2
    omega
/-- The numbers of a Why behind the first, of its first k. -/
def firstIds (l : List Ev) (k : Nat) : List Nat := ((l.take k).drop 1).map Ev.id
theorem firstIds_snoc {l : List Ev} {k : Nat} {y : Ev} (hk : 1 ≤ k) (hy : l[k]? = some y) : firstIds l (k + 1) = firstIds l k ++ [y.id] := by
  have hl := (List.getElem?_eq_some_iff.1 hy).1
  unfold firstIds
  rw [take_snoc' hy, List.drop_append_of_le_length (by simp; omega), List.map_append]; rfl
theorem firstIds_mem {l : List Ev} {k z : Nat} (h : z ∈ firstIds l k) : ∃ i e, i < k ∧ l[i]? = some e ∧ e.id = z := by
  unfold firstIds at h
  obtain ⟨e, he, rfl⟩ := List.mem_map.1 h
  obtain ⟨i, hi⟩ := List.mem_iff_getElem?.1 (List.mem_of_mem_drop he)
  rw [List.getElem?_take] at hi
  split at hi
  · exact ⟨i, e, by assumption, hi, rfl⟩
  · cases hi
set_option maxHeartbeats 1000000 in
theorem LedR_spec {Pb : Nat → Prop} {w : World} {b : Nat} {t : Tr} {id : Nat} (h : Rf Pb w b t) (hid : id < 18446744073709551616) :
    Calls Tryd.prog 64 #[pT b, .int .u64 id] w (Ret fun r w' => ∃ v, r = .tuple #[v, vi (ledM t id).2] ∧ OwnS (one u64V) 27 1 (fun k => w.heap.size ≤ k) No w' v (ledM t id).1 ∧ New w w') := by
  have hok := h.ok
  have hlast := hok.last
  have hkl := hok.len
  have hks := hok.s1
  refine calls_of_Wc Tryd.func64 rfl Tryd.ntmps64 rfl ?_
  (repeat' (first | refine Wl.moveE (by conv => { lhs; whnf }) ?_ | refine Wl.assignE (by conv => { lhs; whnf }) ?_ | refine Wl.nil ?_ | refine Qseq.normal ?_ | refine Wc.seq ?_ | refine Wc.region ?_))
  refine Wl.call (GetR_spec h) rfl ?_
  rintro r w1 ⟨hr, n1⟩
  cases hg : t.get id with
  | none =>
    rw [hg] at hr
    obtain rfl := hr
    have hm : ledM t id = ([], 6) := by unfold ledM; rw [hg]
    rw [hm]
    (repeat' (first | refine Wl.moveE (by conv => { lhs; whnf }) ?_ | refine Wl.extract rfl rfl ?_))
    refine Wl.alloc fun w2 b2 n2 s2 => ?_
    refine Wl.storeB (o := 0) (new := evC ev0) b2 rfl rfl rfl rfl (by decide) (evC_one _) fun w3 b3 c3 s3 => ?_
    have n3 : New w1 w3 := Chg.trans n2 c3 fun _ _ e => by omega
    (repeat' (first | refine Wl.moveE (by conv => { lhs; whnf }) ?_ | refine Wl.assignE (by conv => { lhs; whnf }) ?_ | refine Wl.nil ?_ | refine Qseq.normal ?_ | refine Wc.seq ?_ | refine Wc.region ?_ | refine Wc.ret ?_ | refine Qseq.ret ?_ | refine Wc.condT rfl ?_ | (refine Wl.neq rfl rfl (fun _ => ?_) (fun _ => ?_) <;> (first | (exfalso; omega) | skip))))
    exact Qfn.ret2 rfl rfl rfl ⟨_, rfl, _, rfl, OwnS.nil, n1.trans n3⟩
  | some x =>
    rw [hg] at hr
    obtain rfl := hr
    obtain ⟨_, _, _, hidg, _⟩ := hok.get hg
    have hm : ledM t id = (ledS id t.kept, 0) := by unfold ledM; rw [hg]
    rw [hm]
    (repeat' (first | refine Wl.moveE (by conv => { lhs; whnf }) ?_ | refine Wl.extract rfl rfl ?_))
    refine Wl.alloc fun w2 b2 n2 s2 => ?_
    refine Wl.storeB (o := 0) (new := evC x) b2 rfl rfl rfl rfl (Nat.le_refl 6) (evC_one _) fun w3 b3 c3 s3 => ?_
    have n3 : New w w3 := n1.trans (Chg.trans n2 c3 fun _ _ e => by omega)
    clear b2 n2 b3 c3 s2 s3 n1
    obtain ⟨v, h⟩ := h
    obtain ⟨a, cap, rfl, hc1, hc2⟩ := h.own.form
    (repeat' (first | refine Wl.moveE (by conv => { lhs; whnf }) ?_ | refine Wl.assignE (by conv => { lhs; whnf }) ?_ | refine Wl.nil ?_ | refine Qseq.normal ?_ | refine Wc.seq ?_ | refine Wc.region ?_ | refine Wc.block ?_ | refine Wc.skip ?_ | refine Wc.condF rfl ?_ | (refine Wl.neq rfl rfl (fun _ => ?_) (fun _ => ?_) <;> (first | (exfalso; omega) | skip))))
    refine Wc.loop (σ := Nat × Value) (fun s => [(0, pT b), (1, .int .u64 id), (8, s.2), (9, vi s.1)]) (fun s W => s.1 ≤ t.kept.length ∧ New w W ∧ OwnS (one u64V) 27 1 (fun b => w.heap.size ≤ b) No W s.2 (ledS id (t.kept.take s.1))) (fun s => t.kept.length - s.1) (0, .slice none 0 0) ⟨rfl, rfl, rfl, rfl, trivial⟩ ⟨Nat.zero_le _, n3, OwnS.nil⟩ ?_
    clear n3
    rintro ⟨i, g⟩ G W ⟨hi, nW, og⟩
    dsimp only at hi og
    simp only [upds]
    have hW := h.new nW
    have zW := nW.size
    (repeat' (first | refine Wl.moveE (by conv => { lhs; whnf }) ?_ | refine Wc.seq ?_ | refine Wc.region ?_ | refine Wl.nilP rfl ?_ | refine Wl.fieldAddr rfl rfl ?_))
    refine Wl.load1 rfl (hW.bk.cell (o := 2) rfl) ?_
    (repeat' (first | refine Wl.moveE (by conv => { lhs; whnf }) ?_ | refine Wl.assignE (by conv => { lhs; whnf }) ?_ | refine Wl.nil ?_ | refine Wl.lenS rfl ?_ | refine Qseq.normal ?_ | refine Wc.seq ?_ | refine Wc.region ?_ | refine Wc.block ?_ | refine Wc.skip ?_ | refine Wc.exit ?_ | refine Wc.ret ?_ | refine Qseq.exit ?_ | refine Qblk.hit ?_ | refine Qloop.exit ?_ | refine Wc.condT rfl ?_ | refine Wc.condF rfl ?_ | refine Wl.nilP rfl ?_ | refine Wl.fieldAddr rfl rfl ?_ | refine Wl.lss rfl rfl (fun _ => ?_) (fun _ => ?_)))
    · obtain ⟨y, hy⟩ := get_lt t.kept (k := i) (by omega)
      have hym := List.mem_of_getElem? hy
      obtain ⟨k1, k2, k3⟩ := hok.ok y hym
      have hyid := hok.ids i y hy
      refine Wl.load1 rfl (hW.bk.cell (o := 2) rfl) ?_
      (repeat' (refine Wl.moveE (by conv => { lhs; whnf }) ?_))
      refine Wl.idxAddr (hW.own.rd goodEv.mo) rfl rfl (by omega) (by rw [Int.toNat_natCast]; exact hy) fun bb o cs hcl hR hat => ?_
      obtain rfl : cs = evC y := hR
      refine Wl.fieldAddr rfl rfl ?_
      refine Wl.load1 (u := .int .u64 y.id) rfl (hat.get 0 rfl) ?_
      refine Wl.call (WhyR_spec ⟨_, hW⟩ k1.id) rfl ?_
      rintro _ W1 ⟨lv, rfl, ol, m1⟩
      have hm2 : whyM t y.id = ((whyF t y.id y).1, (whyF t y.id y).2, 0) := by unfold whyM; rw [hok.get_of hy]
      rw [hm2] at ol
      dsimp only at ol
      have hlen := whyF_len t y.id y
      have hT : firstIds (why t y) (why t y).length = tailIds t y := by unfold firstIds tailIds; rw [List.take_length]
      have hfall := fun j k e f => why_falls hok hym j k e f
      have hhd := why_head hok hym
      change OwnS rEv _ 6 _ No W1 lv (why t y) at ol
      change (why t y).length ≤ _ at hlen
      have hl1 := (List.getElem?_eq_some_iff.1 hhd).1
      have hnext := ledS_next hok hidg hy
      have hbase := (ledS_inv hok id i (by omega)).2
      rw [← hT] at hnext
      generalize why t y = l at *
      clear hT hm2
      have og1 := og.new (plain_one _) m1
      have hsep : Sep lv g := fun k e e' => by have := (ol.lt e).1; have := (og.lt e').2; omega
      obtain ⟨la, lc, rfl, hlc1, hlc2⟩ := ol.form
      have nW1 := nW.trans m1
      have zm := m1.size
      clear m1 og hat
      (repeat' (first | refine Wl.moveE (by conv => { lhs; whnf }) ?_ | refine Wl.assignE (by conv => { lhs; whnf }) ?_ | refine Wl.nil ?_ | refine Wl.extract rfl rfl ?_ | refine Qseq.normal ?_ | refine Wc.seq ?_ | refine Wc.region ?_ | refine Wc.block ?_))
      refine Wc.loop (σ := Nat × Value) (fun s => [(0, pT b), (1, .int .u64 id), (8, s.2), (9, vi i), (10, .slice la l.length lc), (13, vi s.1)]) (fun s W' => 1 ≤ s.1 ∧ s.1 ≤ l.length ∧ New w W' ∧ OwnS rEv 31 6 (fun k => W.heap.size ≤ k) No W' (.slice la l.length lc) l ∧ Sep (.slice la l.length lc) s.2 ∧
        OwnS (one u64V) 27 1 (fun b => w.heap.size ≤ b) No W' s.2 (if id ∈ firstIds l s.1 then ledS id (t.kept.take i) ++ [y.id] else ledS id (t.kept.take i))) (fun s => l.length - s.1) (1, g) ⟨rfl, rfl, rfl, rfl, rfl, rfl, trivial⟩
        ⟨Nat.le_refl _, hl1, nW1, ol, hsep, by rw [if_neg (by cases l <;> simp [firstIds])]; exact og1⟩ ?_
      clear nW1 ol hsep og1 zm
      rintro ⟨k, g'⟩ G' W' ⟨hk1, hk2, nW', ol, hsep, og'⟩
      dsimp only at hk1 hk2 hsep og'
      simp only [upds]
      have hW' := h.new nW'
      have zW' := nW'.size
      (repeat' (first | refine Wl.moveE (by conv => { lhs; whnf }) ?_ | refine Wl.assignE (by conv => { lhs; whnf }) ?_ | refine Wl.nil ?_ | refine Wl.lenS rfl ?_ | refine Qseq.normal ?_ | refine Wc.seq ?_ | refine Wc.region ?_ | refine Wc.block ?_ | refine Wc.skip ?_ | refine Wc.exit ?_ | refine Qseq.exit ?_ | refine Qblk.normal ?_ | refine Qblk.hit ?_ | refine Qloop.exit ?_ | refine Wc.condT rfl ?_ | refine Wc.condF rfl ?_ | refine Wl.add rfl rfl (by omega) (by omega) ?_ | refine Wl.lss rfl rfl (fun _ => ?_) (fun _ => ?_)))
      · obtain ⟨z, hz⟩ := get_lt l (k := k) (by omega)
        refine Wl.idxAddr (ol.rd goodEv.mo) rfl rfl (by omega) (by rw [Int.toNat_natCast]; exact hz) fun bb o cs hcl hR hat => ?_
        obtain rfl : cs = evC z := hR
        refine Wl.fieldAddr rfl rfl ?_
        refine Wl.load1 (u := .int .u64 z.id) rfl (hat.get 0 rfl) ?_
        have hsn := firstIds_snoc hk1 hz
        (repeat' (first | refine Wl.moveE (by conv => { lhs; whnf }) ?_ | refine Wl.assignE (by conv => { lhs; whnf }) ?_ | refine Wl.nil ?_ | refine Qseq.normal ?_ | refine Wc.region ?_ | refine Wc.skip ?_ | refine Qblk.normal ?_ | refine Wc.condT rfl ?_ | refine Wc.condF rfl ?_ | refine Wl.nilP rfl ?_ | refine Wl.fieldAddr rfl rfl ?_ | refine Wl.add rfl rfl (by omega) (by omega) ?_ | refine Wl.eql rfl rfl (fun _ => ?_) (fun _ => ?_)))
        · have hzid : z.id = id := by omega
          have hnot : id ∉ firstIds l k := fun e => by
            obtain ⟨j, q, hj, hq, hqi⟩ := firstIds_mem e
            have := hfall k j q z hj hq hz
            omega
          rw [if_neg hnot] at og'
          refine Wl.load1 rfl (hW'.bk.cell (o := 2) rfl) ?_
          (repeat' (refine Wl.moveE (by conv => { lhs; whnf }) ?_))
          refine Wl.idxAddr (hW'.own.rd goodEv.mo) rfl rfl (by omega) (by rw [Int.toNat_natCast]; exact hy) fun bb o cs hcl hR hat => ?_
          obtain rfl : cs = evC y := hR
          refine Wl.fieldAddr rfl rfl ?_
          refine Wl.load1 (u := .int .u64 y.id) rfl (hat.get 0 rfl) ?_
          refine Wl.append1 (y := y.id) goodU og' rfl rfl rfl rfl rfl (by omega) (by omega) (by simp only [maxLen]; omega) (by omega) rfl rfl fun u' W5 p o5 d5 lie => ?_
          (repeat' (first | refine Wl.moveE (by conv => { lhs; whnf }) ?_ | refine Wl.assignE (by conv => { lhs; whnf }) ?_ | refine Wl.nil ?_ | refine Qseq.normal ?_ | refine Wc.region ?_ | refine Qblk.normal ?_ | refine Wl.add rfl rfl (by omega) (by omega) ?_))
          refine Qloop.normal (k + 1, u') ⟨rfl, rfl, rfl, rfl, rfl, rfl, trivial⟩ ⟨by dsimp only; omega, by dsimp only; omega, Chg.trans nW' d5 fun j hj e => by have := (og'.lt e).1; omega, ol.keepSep (plain_flat _) d5 hsep, sepGrown ol hsep lie, ?_⟩ (by dsimp only; omega)
          dsimp only
          rw [if_pos (by rw [hsn, hzid]; simp)]
          exact o5.mono goodU.mo (fun j _ e => by rcases e with e | e <;> omega) fun _ _ e => e
        · refine Qloop.normal (k + 1, g') ⟨rfl, rfl, rfl, rfl, rfl, rfl, trivial⟩ ⟨by dsimp only; omega, by dsimp only; omega, nW', ol, hsep, ?_⟩ (by dsimp only; omega)
          have hiff : id ∈ firstIds l (k + 1) ↔ id ∈ firstIds l k := by
            rw [hsn, List.mem_append, List.mem_singleton]
            exact ⟨fun e => e.elim (fun e => e) fun e => by omega, .inl⟩
          dsimp only
          simp only [hiff]
          exact og'
      · have hk : k = l.length := by omega
        subst hk
        rw [← hnext] at og'
        exact Qloop.normal (i + 1, g') ⟨rfl, rfl, rfl, rfl, trivial⟩ ⟨by dsimp only; omega, nW', og'⟩ (by dsimp only; omega)
    · have e : i = t.kept.length := by omega
      subst e
      rw [List.take_length] at og
      exact Qfn.ret2 rfl rfl rfl ⟨_, rfl, _, rfl, og, nW⟩
end Go.Proofs.YtjaendlcijmifaaDoor

namespace Go.Proofs.YtjaendlcijmifaaDoor
open Go Wk
open Go.RowKit (Below)
attribute [local irreducible] Go.Calls

section
variable {P : Program} {n : Nat} {ds : List Deferred} {Q : Po} {ops : List Oper} {C : World → Prop} {F : Fr} {w : World}
theorem Wk.Wg.joinTo {f m : Nat} {l : List Nat} (l' : List Nat) (D : Fr → World → Prop) (k : ∀ F' w', D F' w' → Wg P n ds C Q ops f l' F' w') (h : (∀ F' w', D F' w' → Wg P n ds C Q ops f l' F' w') → Wg P n ds C Q ops (f + m) l F w) : Wg P n ds C Q ops (f + m) l F w := h k
end
theorem ids_spec {Pb Pc : Nat → Prop} {w : World} {u v : Value} {a b : List Nat} (h : RdS (one u64V) 1 Pb w u a) (h' : RdS (one u64V) 1 Pc w v b) :
    Calls Tryd.prog 65 #[u, v] w (Ret fun r w' => r = .bool (decide (a = b)) ∧ New w w') := by
  obtain ⟨p, cp, rfl, hc1, hc2⟩ := h.form
  obtain ⟨q, cq, rfl, hd1, hd2⟩ := h'.form
  simp only [maxLen] at hc2 hd2
  refine calls_of_Wc Tryd.func65 rfl Tryd.ntmps65 rfl ?_
  (repeat' (first | refine Wl.moveE (by conv => { lhs; whnf }) ?_ | refine Wl.assignE (by conv => { lhs; whnf }) ?_ | refine Wl.nil ?_ | refine Wl.lenS rfl ?_ | refine Qseq.normal ?_ | refine Wc.seq ?_ | refine Wc.region ?_ | refine Wc.block ?_ | refine Wc.skip ?_ | refine Wc.ret ?_ | refine Qseq.ret ?_ | refine Wc.condT rfl ?_ | refine Wc.condF rfl ?_ | refine Wl.neq rfl rfl (fun _ => ?_) (fun _ => ?_)))
  · refine Qfn.ret1 rfl rfl ⟨_, rfl, ?_, Chg.refl _ _⟩
    rw [decide_eq_false (fun e => by subst e; omega)]; rfl
  · have hl : a.length = b.length := by omega
    refine Wc.loop (σ := Nat) (fun i => [(0, .slice p a.length cp), (1, .slice q b.length cq), (5, vi i)]) (fun i w' => i ≤ a.length ∧ a.take i = b.take i ∧ New w w') (fun i => a.length - i) 0 ⟨rfl, rfl, rfl, trivial⟩ ⟨Nat.zero_le _, rfl, Chg.refl _ _⟩ ?_
    rintro i G w1 ⟨hi, he, n1⟩
    simp only [upds]
    have g := h.keep (stable_one _) n1.keep
    have g' := h'.keep (stable_one _) n1.keep
    (repeat' (first | refine Wl.moveE (by conv => { lhs; whnf }) ?_ | refine Wl.assignE (by conv => { lhs; whnf }) ?_ | refine Wl.nil ?_ | refine Wl.lenS rfl ?_ | refine Qseq.normal ?_ | refine Wc.seq ?_ | refine Wc.region ?_ | refine Wc.block ?_ | refine Wc.skip ?_ | refine Wc.exit ?_ | refine Wc.ret ?_ | refine Qseq.exit ?_ | refine Qblk.hit ?_ | refine Qloop.exit ?_ | refine Wc.condT rfl ?_ | refine Wc.condF rfl ?_ | refine Wl.lss rfl rfl (fun _ => ?_) (fun _ => ?_)))
    · obtain ⟨x, hx⟩ := get_lt a (k := i) (by omega)
      obtain ⟨y, hy⟩ := get_lt b (k := i) (by omega)
      refine Wc.regionN rfl (by kernel_rfl) ?_
      (repeat' (refine Wq.moveE (by conv => { lhs; whnf }) ?_))
      refine Wq.idxAddrV g (fun w' n => n.keep) rfl rfl (by omega) (by rw [Int.toNat_natCast]; exact hx) fun bb o hc => ?_
      refine Wq.load1 rfl hc ?_
      (repeat' (refine Wq.moveE (by conv => { lhs; whnf }) ?_))
      refine Wq.idxAddrV g' (fun w' n => n.keep) rfl rfl (by omega) (by rw [Int.toNat_natCast]; exact hy) fun bb' o' hc' => ?_
      refine Wq.load1 rfl hc' ?_
      (repeat' (first | refine Wq.nil ?_ | refine Wq.neq rfl rfl (fun _ => ?_) (fun _ => ?_)))
      · intro w2 n2
        have hne : x ≠ y := by omega
        (repeat' (first | refine Wl.assignE (by conv => { lhs; whnf }) ?_ | refine Wl.nil ?_ | refine Qseq.normal ?_ | refine Wc.seq ?_ | refine Wc.region ?_ | refine Wc.ret ?_ | refine Qseq.ret ?_ | refine Qblk.ret ?_ | refine Qloop.ret ?_ | refine Wc.condT rfl ?_))
        refine Qfn.ret1 rfl rfl ⟨_, rfl, ?_, n1.trans n2⟩
        rw [decide_eq_false (neqL hx hy hne)]; rfl
      · intro w2 n2
        have hxy : x = y := by omega
        subst hxy
        (repeat' (first | refine Wl.moveE (by conv => { lhs; whnf }) ?_ | refine Wl.assignE (by conv => { lhs; whnf }) ?_ | refine Wl.nil ?_ | refine Qseq.normal ?_ | refine Wc.region ?_ | refine Wc.skip ?_ | refine Qblk.normal ?_ | refine Wc.condF rfl ?_ | refine Wl.add rfl rfl (by omega) (by omega) ?_))
        exact Qloop.normal (i + 1) ⟨rfl, rfl, rfl, trivial⟩ ⟨by omega, take_both he hx hy, n1.trans n2⟩ (by omega)
    · refine Qfn.ret1 rfl rfl ⟨_, rfl, ?_, n1⟩
      rw [decide_eq_true (take_full hl (by omega) he)]; rfl
/-- What Get answers. -/
def getV (t : Tr) (id : Nat) : Ev × Int := match t.get id with
  | none => (ev0, 6)
  | some x => (x, 0)
theorem Get_one {Pb : Nat → Prop} {w : World} {b : Nat} {t : Tr} {id : Nat} (h : Rg Pb w b t) (hid : id < 18446744073709551616) :
    Calls Tryd.prog 38 #[pT b, .int .u64 id] w (Ret fun r w' => r = .tuple #[evV (getV t id).1, vi (getV t id).2] ∧ New w w') := by
  refine (Get_spec h hid).mono ?_
  rintro e w' ⟨v, rfl, hv, n⟩
  refine ⟨v, rfl, ?_, n⟩
  unfold getV
  cases hg : t.get id <;> rw [hg] at hv <;> exact hv
theorem GetR_one {Pb : Nat → Prop} {w : World} {b : Nat} {t : Tr} {id : Nat} (h : Rf Pb w b t) :
    Calls Tryd.prog 62 #[pT b, .int .u64 id] w (Ret fun r w' => r = .tuple #[evV (getV t id).1, vi (getV t id).2] ∧ New w w') := by
  refine (GetR_spec h).mono ?_
  rintro e w' ⟨v, rfl, hv, n⟩
  refine ⟨v, rfl, ?_, n⟩
  unfold getV
  cases hg : t.get id <;> rw [hg] at hv <;> exact hv
theorem whyM_len {t : Tr} (h : TrOk t) (id : Nat) : (whyM t id).1.length ≤ 4096 := by
  unfold whyM
  cases hg : t.get id with
  | none => simp
  | some x =>
    dsimp only
    obtain ⟨h1, h2, _, h4, h5⟩ := h.get hg
    have hl := h.len
    have hs := h.s1
    have hF := why_falls h h2
    have hw := why_ok h x.id x (Nat.le_refl _) h2
    rw [← h1]
    change (why t x).length ≤ 4096
    have key : ∀ (i : Nat) (e : Ev), (why t x)[i]? = some e → e.id + i ≤ x.id := by
      intro i
      induction i with
      | zero => intro e he; cases (why_head h h2).symm.trans he; omega
      | succ i ih =>
        intro e he
        have hi := (List.getElem?_eq_some_iff.1 he).1
        obtain ⟨d, hd⟩ := get_lt (why t x) (k := i) (by omega)
        have := ih d hd
        have := hF (i + 1) i d e (by omega) hd he
        omega
    rcases Nat.eq_zero_or_pos (why t x).length with h0 | h0
    · omega
    · obtain ⟨e, he⟩ := get_lt (why t x) (k := (why t x).length - 1) (by omega)
      have k1 := key _ e he
      have k2 := (mem_id h (hw.mem e (List.mem_of_getElem? he))).1
      unfold Tr.last at h5
      omega
set_option maxRecDepth 8000 in
set_option maxHeartbeats 4000000 in
theorem asks_spec {Pb Qb : Nat → Prop} {w : World} {b c : Nat} {t : Tr} {id : Nat} (h : Rg Pb w b t) (h' : Rf Qb w c t) (hid : id < 18446744073709551616) :
    Calls Tryd.prog 44 #[pT b, pT c, .int .u64 id] w (Ret fun r w' => r = .bool true ∧ New w w') := by
  have hok := h.ok
  have hwl := whyM_len hok id
  refine calls_of_Wc Tryd.func44 rfl Tryd.ntmps44 rfl ?_
  (repeat' (first | refine Wl.moveE (by conv => { lhs; whnf }) ?_ | refine Wl.assignE (by conv => { lhs; whnf }) ?_ | refine Wl.nil ?_ | refine Qseq.normal ?_ | refine Wc.seq ?_ | refine Wc.region ?_))
  refine Wl.call (Get_one h hid) rfl ?_
  rintro _ w1 ⟨rfl, n1⟩
  have hgw : ∀ {Pc : Nat → Prop} {w : World}, Rf Pc w c t → Calls Tryd.prog 62 #[pT c, .int .u64 id] w (Ret fun r w' => r = .tuple #[evV (getV t id).1, vi (getV t id).2] ∧ New w w') := fun h => GetR_one h
  generalize getV t id = gv at *
  obtain ⟨x, xe⟩ := gv
  dsimp only at hgw ⊢
  (repeat' (first | refine Wl.moveE (by conv => { lhs; whnf }) ?_ | refine Wl.extract rfl rfl ?_))
  refine Wl.alloc fun w2 b2 n2 s2 => ?_
  refine Wl.storeB (o := 0) (new := evC x) b2 rfl rfl rfl rfl (Nat.le_refl 6) (evC_one _) fun w3 b3 c3 s3 => ?_
  replace b3 : Bk w3 w1.heap.size 36 (evC x) := b3
  have z1 := n1.size
  have n03 : New w w3 := Chg.trans (n1.trans n2) c3 fun k hk e => by omega
  clear b2 n2 c3 s2 s3
  (repeat' (first | refine Wl.moveE (by conv => { lhs; whnf }) ?_ | refine Wl.assignE (by conv => { lhs; whnf }) ?_ | refine Wl.nil ?_ | refine Qseq.normal ?_ | refine Wc.seq ?_ | refine Wc.region ?_))
  refine Wl.call (hgw (h'.new n03)) rfl ?_
  rintro _ w4 ⟨rfl, n4⟩
  clear hgw
  (repeat' (first | refine Wl.moveE (by conv => { lhs; whnf }) ?_ | refine Wl.extract rfl rfl ?_))
  refine Wl.alloc fun w5 b5 n5 s5 => ?_
  refine Wl.storeB (o := 0) (new := evC x) b5 rfl rfl rfl rfl (Nat.le_refl 6) (evC_one _) fun w6 b6 c6 s6 => ?_
  replace b6 : Bk w6 w4.heap.size 31 (evC x) := b6
  have z4 := n4.size
  have e3 := b3.lt
  have n36 : New w3 w6 := Chg.trans (n4.trans n5) c6 fun k hk e => by omega
  have bb6 := b3.chg n36 (fun e => e)
  have n06 := n03.trans n36
  clear b5 n5 c6 s5 s6 b3 n36 n03 n4
  (repeat' (first | refine Wl.moveE (by conv => { lhs; whnf }) ?_ | refine Wl.assignE (by conv => { lhs; whnf }) ?_ | refine Wl.nil ?_ | refine Qseq.normal ?_ | refine Wc.seq ?_ | refine Wc.region ?_))
  refine Wl.call (Why_spec (h.new n06) hid) rfl ?_
  rintro _ w7 ⟨v7, rfl, o7, n7⟩
  (repeat' (first | refine Wl.moveE (by conv => { lhs; whnf }) ?_ | refine Wl.assignE (by conv => { lhs; whnf }) ?_ | refine Wl.nil ?_ | refine Wl.extract rfl rfl ?_ | refine Qseq.normal ?_ | refine Wc.seq ?_ | refine Wc.region ?_))
  refine Wl.call (WhyR_spec (h'.new (n06.trans n7)) hid) rfl ?_
  rintro _ w8 ⟨v8, rfl, o8, n8⟩
  have hwy : ∀ {w : World}, Rg Pb w b t → Calls Tryd.prog 16 #[pT b, .int .u64 id] w (Ret fun r w' => ∃ v, r = .tuple #[v, .bool (whyM t id).2.1, vi (whyM t id).2.2] ∧ OwnS rEv 36 6 (fun k => w.heap.size ≤ k) No w' v (whyM t id).1 ∧ New w w') := fun h => Why_spec h hid
  generalize whyM t id = ym at *
  obtain ⟨yl, yq, ye⟩ := ym
  dsimp only at hwy hwl o7 o8 ⊢
  obtain ⟨a7, c7, rfl, hc7, hd7⟩ := o7.form
  obtain ⟨a8, c8, rfl, hc8, hd8⟩ := o8.form
  have n78 := n7.trans n8
  have n08 := n06.trans n78
  have b8 := bb6.chg n78 (fun e => e)
  have d8 := b6.chg n78 (fun e => e)
  have h7 : ∀ k, (Value.slice a7 yl.length c7).ownBlock = some k → w6.heap.size ≤ k ∧ k < w7.heap.size := fun k hk => o7.lt hk
  replace o7 := o7.new (plain_flat _) n8
  have z6 := n06.size
  have z78 := n7.size
  have z8 := n8.size
  have h8 : ∀ k, (Value.slice a8 yl.length c8).ownBlock = some k → w7.heap.size ≤ k ∧ k < w8.heap.size := fun k hk => o8.lt hk
  clear n06 n7 n8 n78 bb6 b6 n1
  (repeat' (first | refine Wl.moveE (by conv => { lhs; whnf }) ?_ | refine Wl.assignE (by conv => { lhs; whnf }) ?_ | refine Wl.nil ?_ | refine Wl.extract rfl rfl ?_ | refine Qseq.normal ?_))
  refine Wk.Wc.cutW [(0, pT b), (1, pT c), (2, .int .u64 id), (11, .slice a7 yl.length c7), (14, .slice a8 yl.length c8)] (fun W => New w8 W) ?_ ?_
  · skip
    refine Wc.seq ?_
    refine Wc.regionG (m := 29) rfl (by kernel_rfl) (New w8) (Chg.drew _ _) rfl ?_
    intro w9 n9
    show Wg _ _ _ _ _ _ _ [0, 1, 2, 3, 4, 5, 6, 7, 8, 9, 10, 11, 12, 13, 14, 15, 16, 17, 18, 19, 20, 21, 22, 23, 24, 25, 26, 27, 28] _ _
    refine Wk.Wg.qh rfl rfl rfl (Wq.loadAt (fun w' n => (b8.chg n (fun e => e)).at) rfl rfl (Wq.nil ?_))
    refine Wg.quiet (q := 3) (l' := [1, 2, 4, 5, 6, 7, 8, 9, 10, 11, 12, 13, 14, 15, 16, 17, 18, 19, 20, 21, 22, 23, 24, 25, 26, 27, 28]) rfl rfl rfl (Wq.loadAt (fun w' n => (d8.chg n (fun e => e)).at) rfl rfl (Wq.nil ?_))
    refine Wk.Wg.joinTo (f := 24) (m := 3) [5, 6, 7, 8, 9, 10, 11, 12, 13, 14, 15, 16, 17, 18, 19, 20, 21, 22, 23, 24, 25, 26, 27, 28] (fun F' w' => ∃ (v u : Value), agrees F' [(0, pT b), (1, pT c), (2, .int .u64 id), (8, vi xe), (10, vi xe), (11, .slice a7 yl.length c7), (12, .bool yq), (13, vi ye), (14, .slice a8 yl.length c8), (15, .bool yq), (16, vi ye), (56, v), (58, u)] ∧ New w8 w' ∧ OwnS rEv 31 6 (fun k => w8.heap.size ≤ k) No w' v [x] ∧ OwnS rEv 31 6 (fun k => w8.heap.size ≤ k) No w' u [x]) ?_ (fun K => ?_)
    rotate_left
    · have z9 := n9.size
      refine Wg.two rfl rfl rfl rfl rfl rfl rfl rfl
        (Wl.buildSlice1 (R := rEv) (Pe := No) (y := x) goodEv rfl rfl rfl rfl (by omega) (by omega) fun v1 W1 q1 m1 r1 t1 => Wl.nil ⟨rfl, n9.trans m1, ?_⟩)
        (Wl.buildSlice1 (R := rEv) (Pe := No) (y := x) goodEv rfl rfl rfl rfl (by omega) (by omega) fun v1 W1 q1 m1 r1 t1 => Wl.nil ⟨rfl, n9.trans m1, ?_⟩)
      · have y1 := m1.size
        refine Wg.two rfl rfl rfl rfl rfl rfl rfl rfl
          (Wl.call (events_spec (q1.rd goodEv.mo) (by simp)) rfl fun v2 W2 hh => ?_)
          (Wl.buildSlice1 (R := rEv) (Pe := No) (y := x) goodEv rfl rfl rfl rfl (by omega) (by omega) fun v2 W2 q2 m2 r2 t2 => Wl.nil ⟨rfl, (n9.trans m1).trans m2, ?_⟩)
        · obtain ⟨q2, m2⟩ := hh
          have y2 := m2.size
          refine Wl.nil ⟨rfl, (n9.trans m1).trans m2, ?_⟩
          refine Wg.one rfl rfl rfl rfl rfl (Wl.buildSlice1 (R := rEv) (Pe := No) (y := x) goodEv rfl rfl rfl rfl (by omega) (by omega) fun v3 W3 q3 m3 r3 t3 => Wl.nil ⟨rfl, ((n9.trans m1).trans m2).trans m3, K _ _ ⟨v2, v3, ⟨rfl, rfl, rfl, rfl, rfl, rfl, rfl, rfl, rfl, rfl, rfl, rfl, rfl, trivial⟩, ((n9.trans m1).trans m2).trans m3, (q2.new (plain_flat _) m3).reblk fun k _ e => by omega, q3.reblk fun k _ e => by omega⟩⟩)
        · have y2 := m2.size
          refine Wg.one rfl rfl rfl rfl rfl (Wl.call (events_spec ((q1.new (plain_flat _) m2).rd goodEv.mo) (by simp)) rfl fun v3 W3 hh => ?_)
          obtain ⟨q3, m3⟩ := hh
          exact Wl.nil ⟨rfl, ((n9.trans m1).trans m2).trans m3, K _ _ ⟨v3, v2, ⟨rfl, rfl, rfl, rfl, rfl, rfl, rfl, rfl, rfl, rfl, rfl, rfl, rfl, trivial⟩, ((n9.trans m1).trans m2).trans m3, q3.reblk fun k _ e => by omega, (q2.new (plain_flat _) m3).reblk fun k _ e => by omega⟩⟩
      · have y1 := m1.size
        refine Wg.one rfl rfl rfl rfl rfl (Wl.buildSlice1 (R := rEv) (Pe := No) (y := x) goodEv rfl rfl rfl rfl (by omega) (by omega) fun v2 W2 q2 m2 r2 t2 => Wl.nil ⟨rfl, (n9.trans m1).trans m2, ?_⟩)
        have y2 := m2.size
        refine Wg.one rfl rfl rfl rfl rfl (Wl.call (events_spec (q2.rd goodEv.mo) (by simp)) rfl fun v3 W3 hh => ?_)
        obtain ⟨q3, m3⟩ := hh
        exact Wl.nil ⟨rfl, ((n9.trans m1).trans m2).trans m3, K _ _ ⟨v3, v1, ⟨rfl, rfl, rfl, rfl, rfl, rfl, rfl, rfl, rfl, rfl, rfl, rfl, rfl, trivial⟩, ((n9.trans m1).trans m2).trans m3, q3.reblk fun k _ e => by omega, (q1.new (plain_flat _) (m2.trans m3)).reblk fun k _ e => by omega⟩⟩
    · rintro F' w10 ⟨v, u, hag, n10, ov, ou⟩
      rw [← upds_of_agrees hag]
      simp only [upds]
      clear hag
      refine Wg.one rfl rfl rfl rfl rfl (Wl.call (Same_spec (ov.rd goodEv.mo) (ou.rd goodEv.mo)) rfl fun r w11 hh => ?_)
      obtain ⟨rfl, n11⟩ := hh
      rw [decide_eq_true rfl]
      replace n11 := n10.trans n11
      refine Wl.nil ⟨rfl, n11, ?_⟩
      clear ov ou n10
      (repeat' (first | refine Wg.nil ?_ | (refine Wg.qh rfl rfl rfl ?_; (try refine Wq.guardY rfl rfl ?_); (first | refine Wq.moveE (by conv => { lhs; whnf }) ?_ | refine Wq.assignE (by conv => { lhs; whnf }) ?_ | refine Wq.extract rfl rfl ?_ | refine Wq.pickTE rfl (by conv => { lhs; whnf }) ?_ | refine Wq.pickFE rfl (by conv => { lhs; whnf }) ?_ | refine Wq.notB rfl ?_ | refine Wq.lenS rfl ?_ | refine Wq.lenStr rfl ?_ | refine Wq.nilP rfl ?_ | refine Wq.fieldAddr rfl rfl ?_ | refine Wq.add rfl rfl (by omega) (by omega) ?_ | refine Wq.sub rfl rfl (by omega) (by omega) ?_ | refine Wq.mul rfl rfl (by omega) (by omega) ?_ | refine Wq.convI rfl ?_ | (refine Wq.lss rfl rfl (fun _ => ?_) (fun _ => ?_) <;> (first | (exfalso; omega) | (exfalso; contradiction) | skip)) | (refine Wq.leq rfl rfl (fun _ => ?_) (fun _ => ?_) <;> (first | (exfalso; omega) | (exfalso; contradiction) | skip)) | (refine Wq.gtr rfl rfl (fun _ => ?_) (fun _ => ?_) <;> (first | (exfalso; omega) | (exfalso; contradiction) | skip)) | (refine Wq.geq rfl rfl (fun _ => ?_) (fun _ => ?_) <;> (first | (exfalso; omega) | (exfalso; contradiction) | skip)) | (refine Wq.eql rfl rfl (fun _ => ?_) (fun _ => ?_) <;> (first | (exfalso; omega) | (exfalso; contradiction) | skip)) | (refine Wq.neq rfl rfl (fun _ => ?_) (fun _ => ?_) <;> (first | (exfalso; omega) | (exfalso; contradiction) | skip)) | (refine Wq.seql rfl rfl (fun _ => ?_) (fun _ => ?_) <;> (first | (exfalso; omega) | (exfalso; contradiction) | skip)) | (refine Wq.sneq rfl rfl (fun _ => ?_) (fun _ => ?_) <;> (first | (exfalso; omega) | (exfalso; contradiction) | skip))); all_goals (try refine Wq.nil ?_))))
      refine Wg.quiet (q := 15) (l' := [14, 16, 17, 18, 19, 20, 21, 22, 23, 24, 25, 26, 27, 28]) rfl rfl rfl (Wq.guardY rfl rfl (Wq.moveE (by conv => { lhs; whnf }) (Wq.nil ?_)))
      refine Wk.Wg.oneH rfl rfl rfl rfl rfl (Wl.guardY rfl rfl (Wl.call (events_spec ((o7.new (plain_flat _) n11).rd goodEv.mo) (by omega)) rfl ?_))
      rintro v12 w12 ⟨o12, n12⟩
      have n012 := n11.trans n12
      refine Wl.nil ⟨rfl, n012, ?_⟩
      (repeat' (first | refine Wg.nil ?_ | (refine Wg.qh rfl rfl rfl ?_; (try refine Wq.guardY rfl rfl ?_); (first | refine Wq.moveE (by conv => { lhs; whnf }) ?_ | refine Wq.assignE (by conv => { lhs; whnf }) ?_ | refine Wq.extract rfl rfl ?_ | refine Wq.pickTE rfl (by conv => { lhs; whnf }) ?_ | refine Wq.pickFE rfl (by conv => { lhs; whnf }) ?_ | refine Wq.notB rfl ?_ | refine Wq.lenS rfl ?_ | refine Wq.lenStr rfl ?_ | refine Wq.nilP rfl ?_ | refine Wq.fieldAddr rfl rfl ?_ | refine Wq.add rfl rfl (by omega) (by omega) ?_ | refine Wq.sub rfl rfl (by omega) (by omega) ?_ | refine Wq.mul rfl rfl (by omega) (by omega) ?_ | refine Wq.convI rfl ?_ | (refine Wq.lss rfl rfl (fun _ => ?_) (fun _ => ?_) <;> (first | (exfalso; omega) | (exfalso; contradiction) | skip)) | (refine Wq.leq rfl rfl (fun _ => ?_) (fun _ => ?_) <;> (first | (exfalso; omega) | (exfalso; contradiction) | skip)) | (refine Wq.gtr rfl rfl (fun _ => ?_) (fun _ => ?_) <;> (first | (exfalso; omega) | (exfalso; contradiction) | skip)) | (refine Wq.geq rfl rfl (fun _ => ?_) (fun _ => ?_) <;> (first | (exfalso; omega) | (exfalso; contradiction) | skip)) | (refine Wq.eql rfl rfl (fun _ => ?_) (fun _ => ?_) <;> (first | (exfalso; omega) | (exfalso; contradiction) | skip)) | (refine Wq.neq rfl rfl (fun _ => ?_) (fun _ => ?_) <;> (first | (exfalso; omega) | (exfalso; contradiction) | skip)) | (refine Wq.seql rfl rfl (fun _ => ?_) (fun _ => ?_) <;> (first | (exfalso; omega) | (exfalso; contradiction) | skip)) | (refine Wq.sneq rfl rfl (fun _ => ?_) (fun _ => ?_) <;> (first | (exfalso; omega) | (exfalso; contradiction) | skip))); all_goals (try refine Wq.nil ?_))))
      refine Wk.Wg.oneH rfl rfl rfl rfl rfl (Wl.guardY rfl rfl (Wl.call (Same_spec (o12.rd goodEv.mo) ((o8.new (plain_flat _) n012).rd goodEv.mo)) rfl ?_))
      rintro _ w13 ⟨rfl, n13⟩
      rw [decide_eq_true rfl]
      have n013 := n012.trans n13
      refine Wl.nil ⟨rfl, n013, ?_⟩
      clear n11 n12 n012 n13 o12
      (repeat' (first | refine Wg.nil ?_ | (refine Wg.qh rfl rfl rfl ?_; (try refine Wq.guardY rfl rfl ?_); (first | refine Wq.moveE (by conv => { lhs; whnf }) ?_ | refine Wq.assignE (by conv => { lhs; whnf }) ?_ | refine Wq.extract rfl rfl ?_ | refine Wq.pickTE rfl (by conv => { lhs; whnf }) ?_ | refine Wq.pickFE rfl (by conv => { lhs; whnf }) ?_ | refine Wq.notB rfl ?_ | refine Wq.lenS rfl ?_ | refine Wq.lenStr rfl ?_ | refine Wq.nilP rfl ?_ | refine Wq.fieldAddr rfl rfl ?_ | refine Wq.add rfl rfl (by omega) (by omega) ?_ | refine Wq.sub rfl rfl (by omega) (by omega) ?_ | refine Wq.mul rfl rfl (by omega) (by omega) ?_ | refine Wq.convI rfl ?_ | (refine Wq.lss rfl rfl (fun _ => ?_) (fun _ => ?_) <;> (first | (exfalso; omega) | (exfalso; contradiction) | skip)) | (refine Wq.leq rfl rfl (fun _ => ?_) (fun _ => ?_) <;> (first | (exfalso; omega) | (exfalso; contradiction) | skip)) | (refine Wq.gtr rfl rfl (fun _ => ?_) (fun _ => ?_) <;> (first | (exfalso; omega) | (exfalso; contradiction) | skip)) | (refine Wq.geq rfl rfl (fun _ => ?_) (fun _ => ?_) <;> (first | (exfalso; omega) | (exfalso; contradiction) | skip)) | (refine Wq.eql rfl rfl (fun _ => ?_) (fun _ => ?_) <;> (first | (exfalso; omega) | (exfalso; contradiction) | skip)) | (refine Wq.neq rfl rfl (fun _ => ?_) (fun _ => ?_) <;> (first | (exfalso; omega) | (exfalso; contradiction) | skip)) | (refine Wq.seql rfl rfl (fun _ => ?_) (fun _ => ?_) <;> (first | (exfalso; omega) | (exfalso; contradiction) | skip)) | (refine Wq.sneq rfl rfl (fun _ => ?_) (fun _ => ?_) <;> (first | (exfalso; omega) | (exfalso; contradiction) | skip))); all_goals (try refine Wq.nil ?_))))
      refine Wk.Wg.qh rfl rfl rfl (Wq.guardY rfl rfl (Wk.Wq.bneq (a := yq) (b := yq) rfl rfl (Wq.nil ?_)))
      rw [show (!(yq == yq)) = false by cases yq <;> rfl]
      (repeat' (first | refine Wg.nil ?_ | (refine Wg.qh rfl rfl rfl ?_; (try refine Wq.guardY rfl rfl ?_); (first | refine Wq.moveE (by conv => { lhs; whnf }) ?_ | refine Wq.assignE (by conv => { lhs; whnf }) ?_ | refine Wq.extract rfl rfl ?_ | refine Wq.pickTE rfl (by conv => { lhs; whnf }) ?_ | refine Wq.pickFE rfl (by conv => { lhs; whnf }) ?_ | refine Wq.notB rfl ?_ | refine Wq.lenS rfl ?_ | refine Wq.lenStr rfl ?_ | refine Wq.nilP rfl ?_ | refine Wq.fieldAddr rfl rfl ?_ | refine Wq.add rfl rfl (by omega) (by omega) ?_ | refine Wq.sub rfl rfl (by omega) (by omega) ?_ | refine Wq.mul rfl rfl (by omega) (by omega) ?_ | refine Wq.convI rfl ?_ | (refine Wq.lss rfl rfl (fun _ => ?_) (fun _ => ?_) <;> (first | (exfalso; omega) | (exfalso; contradiction) | skip)) | (refine Wq.leq rfl rfl (fun _ => ?_) (fun _ => ?_) <;> (first | (exfalso; omega) | (exfalso; contradiction) | skip)) | (refine Wq.gtr rfl rfl (fun _ => ?_) (fun _ => ?_) <;> (first | (exfalso; omega) | (exfalso; contradiction) | skip)) | (refine Wq.geq rfl rfl (fun _ => ?_) (fun _ => ?_) <;> (first | (exfalso; omega) | (exfalso; contradiction) | skip)) | (refine Wq.eql rfl rfl (fun _ => ?_) (fun _ => ?_) <;> (first | (exfalso; omega) | (exfalso; contradiction) | skip)) | (refine Wq.neq rfl rfl (fun _ => ?_) (fun _ => ?_) <;> (first | (exfalso; omega) | (exfalso; contradiction) | skip)) | (refine Wq.seql rfl rfl (fun _ => ?_) (fun _ => ?_) <;> (first | (exfalso; omega) | (exfalso; contradiction) | skip)) | (refine Wq.sneq rfl rfl (fun _ => ?_) (fun _ => ?_) <;> (first | (exfalso; omega) | (exfalso; contradiction) | skip))); all_goals (try refine Wq.nil ?_))))
      (repeat' (first | refine Qseq.normal ?_ | refine Wc.skip ?_ | refine Wc.condF rfl ?_))
      exact ⟨rfl, ⟨rfl, rfl, rfl, rfl, rfl, trivial⟩, n013⟩
  rintro G w9 n9
  simp only [upds]
  have n09 := n08.trans n9
  have o7' := o7.new (plain_flat _) n9
  have o8' := o8.new (plain_flat _) n9
  have z9 := n9.size
  clear b8 d8 o7 o8 n08 n9
  (repeat' (first | refine Wl.moveE (by conv => { lhs; whnf }) ?_ | refine Wc.seq ?_ | refine Wc.region ?_))
  refine Wl.call (Led_spec (h.new n09) hid) rfl ?_
  rintro _ wa ⟨va, rfl, oa, na⟩
  (repeat' (first | refine Wl.moveE (by conv => { lhs; whnf }) ?_ | refine Wl.assignE (by conv => { lhs; whnf }) ?_ | refine Wl.nil ?_ | refine Wl.extract rfl rfl ?_ | refine Qseq.normal ?_ | refine Wc.seq ?_ | refine Wc.region ?_))
  refine Wl.call (LedR_spec (h'.new (n09.trans na)) hid) rfl ?_
  rintro _ wb ⟨vb, rfl, ob, nb⟩
  (repeat' (first | refine Wl.moveE (by conv => { lhs; whnf }) ?_ | refine Wl.assignE (by conv => { lhs; whnf }) ?_ | refine Wl.nil ?_ | refine Wl.extract rfl rfl ?_ | refine Qseq.normal ?_ | refine Wc.seq ?_ | refine Wc.region ?_))
  refine Wl.call (Led_spec (h.new ((n09.trans na).trans nb)) hid) rfl ?_
  rintro _ wc ⟨vc, rfl, oc, nc⟩
  generalize ledM t id = lm at *
  obtain ⟨ll, le⟩ := lm
  dsimp only at oa ob oc ⊢
  obtain ⟨aa, ca, rfl, ha1, ha2⟩ := oa.form
  obtain ⟨ab, cb, rfl, hb1, hb2⟩ := ob.form
  obtain ⟨ac, cc, rfl, hq1, hq2⟩ := oc.form
  simp only [maxLen] at ha2 hb2 hq2
  have za := na.size
  have zb := nb.size
  have zc := nc.size
  have ha : ∀ k, (Value.slice aa ll.length ca).ownBlock = some k → w9.heap.size ≤ k ∧ k < wa.heap.size := fun k hk => oa.lt hk
  have hb : ∀ k, (Value.slice ab ll.length cb).ownBlock = some k → wa.heap.size ≤ k ∧ k < wb.heap.size := fun k hk => ob.lt hk
  have hc : ∀ k, (Value.slice ac ll.length cc).ownBlock = some k → wb.heap.size ≤ k ∧ k < wc.heap.size := fun k hk => oc.lt hk
  have n9c := (na.trans nb).trans nc
  have n0c := n09.trans n9c
  replace oa := oa.new (plain_one _) (nb.trans nc)
  replace ob := ob.new (plain_one _) nc
  replace o7' := o7'.new (plain_flat _) n9c
  replace o8' := o8'.new (plain_flat _) n9c
  clear na nb nc n09 n9c
  (repeat' (first | refine Wl.moveE (by conv => { lhs; whnf }) ?_ | refine Wl.assignE (by conv => { lhs; whnf }) ?_ | refine Wl.nil ?_ | refine Wl.extract rfl rfl ?_ | refine Qseq.normal ?_ | refine Wc.seq ?_ | refine Wc.region ?_))
  refine Wl.call (ids_spec (oa.rd goodU.mo) (ob.rd goodU.mo)) rfl ?_
  rintro _ wd ⟨rfl, nd⟩
  rw [decide_eq_true rfl]
  have n0d := n0c.trans nd
  replace oa := oa.new (plain_one _) nd
  replace ob := ob.new (plain_one _) nd
  replace oc := oc.new (plain_one _) nd
  replace o7' := o7'.new (plain_flat _) nd
  replace o8' := o8'.new (plain_flat _) nd
  have zd := nd.size
  clear nd n0c
  (repeat' (first | refine Wl.moveE (by conv => { lhs; whnf }) ?_ | refine Wl.assignE (by conv => { lhs; whnf }) ?_ | refine Wl.nil ?_ | refine Wl.guardY rfl rfl ?_ | refine Wl.pickFE rfl (by conv => { lhs; whnf }) ?_ | refine Wl.notB rfl ?_ | refine Qseq.normal ?_ | refine Wc.seq ?_ | refine Wc.region ?_ | refine Wc.block ?_ | refine Wc.skip ?_ | refine Wc.condF rfl ?_ | (refine Wl.neq rfl rfl (fun _ => ?_) (fun _ => ?_) <;> (first | (exfalso; omega) | skip))))
  refine Wc.loop (σ := Nat × List Nat) (fun s => [(0, pT b), (1, pT c), (2, .int .u64 id), (11, .slice a7 yl.length c7), (14, .slice a8 yl.length c8), (17, .slice aa ll.length ca), (19, .slice ab ll.length cb), (21, .slice ac ll.length cc), (23, vi s.1)]) (fun s W => s.1 ≤ ll.length ∧ s.2.length = ll.length ∧ OwnS (one u64V) 27 1 (fun k => w9.heap.size ≤ k) No W (.slice aa ll.length ca) s.2 ∧ Chg (fun k => (Value.slice aa ll.length ca).ownBlock = some k) wd W) (fun s => ll.length - s.1) (0, ll) ⟨rfl, rfl, rfl, rfl, rfl, rfl, rfl, rfl, rfl, trivial⟩ ⟨Nat.zero_le _, rfl, oa, Chg.refl _ _⟩ ?_
  clear oa
  rintro ⟨i, la⟩ G1 W ⟨hi, hil, oa, cW⟩
  dsimp only at hi hil oa
  simp only [upds]
  (repeat' (first | refine Wl.moveE (by conv => { lhs; whnf }) ?_ | refine Wl.assignE (by conv => { lhs; whnf }) ?_ | refine Wl.nil ?_ | refine Wl.lenS rfl ?_ | refine Qseq.normal ?_ | refine Wc.seq ?_ | refine Wc.region ?_ | refine Wc.block ?_ | refine Wc.skip ?_ | refine Wc.exit ?_ | refine Qseq.exit ?_ | refine Qblk.hit ?_ | refine Qloop.exit ?_ | refine Wc.condT rfl ?_ | refine Wc.condF rfl ?_ | refine Wl.lss rfl rfl (fun _ => ?_) (fun _ => ?_)))
  · refine Wl.idxStore (q := 0) oa rfl rfl (by omega) (by omega) rfl rfl rfl rfl rfl rfl fun p W1 o1 c1 => ?_
    (repeat' (first | refine Wl.moveE (by conv => { lhs; whnf }) ?_ | refine Wl.assignE (by conv => { lhs; whnf }) ?_ | refine Wl.nil ?_ | refine Qseq.normal ?_ | refine Wc.region ?_ | refine Qblk.normal ?_ | refine Wl.add rfl rfl (by omega) (by omega) ?_))
    exact Qloop.normal (i + 1, la.set ((i : Int).toNat) 0) ⟨rfl, rfl, rfl, rfl, rfl, rfl, rfl, rfl, rfl, trivial⟩ ⟨by dsimp only; omega, by dsimp only; rw [List.length_set]; exact hil, o1, Chg.trans cW c1 fun _ _ e => e⟩ (by dsimp only; omega)
  replace ob := ob.chg (plain_one _) cW fun k hk e => by have := ha k e; have := hb k hk; omega
  replace oc := oc.chg (plain_one _) cW fun k hk e => by have := ha k e; have := hc k hk; omega
  replace o7' := o7'.chg (plain_flat _) cW fun k hk e => by have := ha k e; have := h7 k hk; omega
  replace o8' := o8'.chg (plain_flat _) cW fun k hk e => by have := ha k e; have := h8 k hk; omega
  have n0W : New w W := Chg.trans n0d cW fun k hk e => by have := ha k e; omega
  clear n0d cW oa hi hil
  skip
  refine Wc.loop (σ := Nat × List Ev) (fun s => [(0, pT b), (1, pT c), (2, .int .u64 id), (11, .slice a7 yl.length c7), (14, .slice a8 yl.length c8), (19, .slice ab ll.length cb), (21, .slice ac ll.length cc), (24, vi s.1)]) (fun s W' => s.1 ≤ yl.length ∧ s.2.length = yl.length ∧ OwnS rEv 36 6 (fun k => w6.heap.size ≤ k) No W' (.slice a7 yl.length c7) s.2 ∧ Chg (fun k => (Value.slice a7 yl.length c7).ownBlock = some k) W W') (fun s => yl.length - s.1) (0, yl) ⟨rfl, rfl, rfl, rfl, rfl, rfl, rfl, rfl, trivial⟩ ⟨Nat.zero_le _, rfl, o7', Chg.refl _ _⟩ ?_
  clear o7'
  rintro ⟨k, lk⟩ G2 W' ⟨hk1, hk2, o7, cW⟩
  dsimp only at hk1 hk2 o7
  simp only [upds]
  (repeat' (first | refine Wl.moveE (by conv => { lhs; whnf }) ?_ | refine Wl.nil ?_ | refine Wl.lenS rfl ?_ | refine Qseq.normal ?_ | refine Wc.seq ?_ | refine Wc.region ?_ | refine Wc.block ?_ | refine Wc.skip ?_ | refine Wc.exit ?_ | refine Qseq.exit ?_ | refine Qblk.hit ?_ | refine Qloop.exit ?_ | refine Wc.condT rfl ?_ | refine Wc.condF rfl ?_ | refine Wl.lss rfl rfl (fun _ => ?_) (fun _ => ?_)))
  · obtain ⟨g, cg, hv, _, _, _⟩ := o7.blk (fun e => by rw [e] at hk2; simp at hk2; omega)
    injection hv with e1 e2 e3
    subst e1
    refine Wl.buildG (u := evV ev0) rfl (by kernel_rfl) ?_
    refine Wl.idxP rfl rfl (by omega) (by omega) ?_
    refine Wl.storeOwnA (f := evC) (q := ev0) (j := k) (cap := c7) (fun _ => rfl) evC_one o7 (by rw [hk2]) (by omega) (by show Value.pointer _ = _; rw [Int.toNat_natCast, Nat.zero_add]) rfl rfl fun W1 o1 c1 => ?_
    (repeat' (first | refine Wl.moveE (by conv => { lhs; whnf }) ?_ | refine Wl.assignE (by conv => { lhs; whnf }) ?_ | refine Wl.nil ?_ | refine Qseq.normal ?_ | refine Wc.region ?_ | refine Qblk.normal ?_ | refine Wl.add rfl rfl (by omega) (by omega) ?_))
    exact Qloop.normal (k + 1, lk.set k ev0) ⟨rfl, rfl, rfl, rfl, rfl, rfl, rfl, rfl, trivial⟩ ⟨by dsimp only; omega, by dsimp only; rw [List.length_set]; exact hk2, o1, Chg.trans cW c1 fun _ _ e => e⟩ (by dsimp only; omega)
  replace ob := ob.chg (plain_one _) cW fun k hk e => by have := h7 k e; have := hb k hk; omega
  replace oc := oc.chg (plain_one _) cW fun k hk e => by have := h7 k e; have := hc k hk; omega
  replace o8' := o8'.chg (plain_flat _) cW fun k hk e => by have := h7 k e; have := h8 k hk; omega
  replace n0W : New w W' := Chg.trans n0W cW fun k hk e => by have := h7 k e; omega
  clear cW o7 hk1 hk2
  skip
  refine Wl.call (hwy (h.new n0W)) rfl ?_
  rintro _ we ⟨ve, rfl, oe, ne⟩
  replace ob := ob.new (plain_one _) ne
  replace oc := oc.new (plain_one _) ne
  replace o8' := o8'.new (plain_flat _) ne
  replace n0W := n0W.trans ne
  clear ne
  (repeat' (first | refine Wl.moveE (by conv => { lhs; whnf }) ?_ | refine Wl.assignE (by conv => { lhs; whnf }) ?_ | refine Wl.nil ?_ | refine Wl.extract rfl rfl ?_ | refine Qseq.normal ?_ | refine Wc.seq ?_ | refine Wc.region ?_))
  refine Wl.call (ids_spec (oc.rd goodU.mo) (ob.rd goodU.mo)) rfl ?_
  rintro _ wf ⟨rfl, nf⟩
  rw [decide_eq_true rfl]
  (try refine Wl.guardY rfl rfl ?_)
  (repeat' (first | refine Wl.moveE (by conv => { lhs; whnf }) ?_ | refine Wl.guardY rfl rfl ?_))
  refine Wl.call (events_spec ((oe.new (plain_flat _) nf).rd goodEv.mo) (by omega)) rfl ?_
  rintro vg wg ⟨og, ng⟩
  (try refine Wl.guardY rfl rfl ?_)
  (repeat' (first | refine Wl.moveE (by conv => { lhs; whnf }) ?_ | refine Wl.guardY rfl rfl ?_))
  refine Wl.call (Same_spec (og.rd goodEv.mo) ((o8'.new (plain_flat _) (nf.trans ng)).rd goodEv.mo)) rfl ?_
  rintro _ wh ⟨rfl, nh⟩
  rw [decide_eq_true rfl]
  (try refine Wl.guardY rfl rfl ?_)
  (repeat' (first | refine Wl.assignE (by conv => { lhs; whnf }) ?_ | refine Wl.nil ?_ | refine Wl.pickTE rfl (by conv => { lhs; whnf }) ?_ | refine Qseq.normal ?_ | refine Wc.ret ?_))
  exact Qfn.ret1 rfl rfl ⟨_, rfl, rfl, ((n0W.trans nf).trans ng).trans nh⟩
end Go.Proofs.YtjaendlcijmifaaDoor

namespace Go.Proofs.YtjaendlcijmifaaDoor
open Go Wk
open Go.RowKit (Below)
attribute [local irreducible] Go.Calls

set_option maxRecDepth 8000 in
set_option maxHeartbeats 4000000 in
theorem looks_spec {Pb Qb : Nat → Prop} {w : World} {b c : Nat} {t : Tr} (ht : Tb w) (h : Rg Pb w b t) (h' : Rf Qb w c t) :
    Calls Tryd.prog 26 #[pT b, pT c] w (Ret fun r w' => r = .bool true ∧ New w w') := by
  have hok := h.ok
  have hlast := hok.last
  have hkl := hok.len
  have hks := hok.s1
  refine calls_of_Wc Tryd.func26 rfl Tryd.ntmps26 rfl ?_
  (repeat' (first | refine Wl.moveE (by conv => { lhs; whnf }) ?_ | refine Wl.assignE (by conv => { lhs; whnf }) ?_ | refine Wl.nil ?_ | refine Qseq.normal ?_ | refine Wc.seq ?_ | refine Wc.region ?_))
  refine Wl.call (Lines_spec ht h) rfl ?_
  rintro v1 w1 ⟨o1, n1⟩
  (repeat' (first | refine Wl.moveE (by conv => { lhs; whnf }) ?_ | refine Wl.assignE (by conv => { lhs; whnf }) ?_ | refine Wl.nil ?_ | refine Qseq.normal ?_ | refine Wc.seq ?_ | refine Wc.region ?_))
  refine Wl.call (LinesR_spec (ht.new n1) (h'.new n1)) rfl ?_
  rintro v2 w2 ⟨o2, n2⟩
  have n02 := n1.trans n2
  have z1 := n1.size
  have z2 := n2.size
  have h1 : ∀ k, v1.ownBlock = some k → w.heap.size ≤ k ∧ k < w1.heap.size := fun k hk => o1.lt hk
  have h2 : ∀ k, v2.ownBlock = some k → w1.heap.size ≤ k ∧ k < w2.heap.size := fun k hk => o2.lt hk
  replace o1 := o1.new (plain_one _) n2
  have hll : (linesM t).length = t.kept.length := by simp [linesM]
  generalize hls : linesM t = ls at *
  obtain ⟨a1, c1, rfl, hc1, hd1⟩ := o1.form
  obtain ⟨a2, c2, rfl, hc2, hd2⟩ := o2.form
  simp only [maxLen] at hd1 hd2
  clear n1 n2
  obtain ⟨vk, hrf⟩ := h'.new n02
  obtain ⟨ak, ck, rfl, _, _⟩ := hrf.own.form
  (repeat' (first | refine Wl.assignE (by conv => { lhs; whnf }) ?_ | refine Wl.nil ?_ | refine Qseq.normal ?_))
  refine Wk.Wc.cutW [(0, pT b), (1, pT c), (5, .slice a1 ls.length c1), (6, .slice a2 ls.length c2)] (fun W => New w2 W) ?_ ?_
  · skip
    refine Wc.seq ?_
    refine Wc.regionT rfl (by kernel_rfl) (New w2) (Chg.drew _ _) ?_
    intro w3 n3
    (repeat' (refine Wt.quiet rfl (Wq.moveE (by conv => { lhs; whnf }) (Wq.nil ?_))))
    refine Wt.chain rfl (Wl.call (texts_spec ((o1.new (plain_one _) n3).rd goodS.mo) ((o2.new (plain_one _) n3).rd goodS.mo)) rfl ?_)
    rintro _ w4 ⟨rfl, n4⟩
    rw [decide_eq_true rfl]
    replace n4 := n3.trans n4
    refine Wl.nil ⟨rfl, n4, ?_⟩
    clear n3
    (repeat' (first | refine Wt.guardY rfl rfl ?_ | refine Wt.quiet rfl (Wq.moveE (by conv => { lhs; whnf }) (Wq.nil ?_)) | refine Wt.quiet rfl (Wq.notB rfl (Wq.nil ?_))))
    refine Wt.chain rfl (Wl.call (each_spec (h.new (n02.trans n4))) rfl ?_)
    rintro v5 w5 ⟨o5, n5⟩
    replace n5 := n4.trans n5
    refine Wl.nil ⟨rfl, n5, ?_⟩
    (repeat' (first | refine Wt.guardY rfl rfl ?_ | refine Wt.quiet rfl (Wq.moveE (by conv => { lhs; whnf }) (Wq.nil ?_)) | refine Wt.quiet rfl (Wq.nilP rfl (Wq.nil ?_)) | refine Wt.quiet rfl (Wq.fieldAddr rfl rfl (Wq.nil ?_))))
    refine Wt.quiet rfl (Wq.load1 rfl (fun w' n => (hrf.new n).bk.cell (o := 2) rfl) (Wq.nil ?_))
    (try refine Wt.guardY rfl rfl ?_)
    refine Wt.chain rfl (Wl.call (Same_spec (o5.rd goodEv.mo) ((hrf.new n5).own.rd goodEv.mo)) rfl ?_)
    rintro _ w6 ⟨rfl, n6⟩
    rw [decide_eq_true rfl]
    replace n6 := n5.trans n6
    refine Wl.nil ⟨rfl, n6, ?_⟩
    clear n4 n5 o5
    (repeat' (first | refine Wt.guardY rfl rfl ?_ | refine Wt.quiet rfl (Wq.moveE (by conv => { lhs; whnf }) (Wq.nil ?_)) | refine Wt.quiet rfl (Wq.pickFE rfl (by conv => { lhs; whnf }) (Wq.nil ?_)) | refine Wt.quiet rfl (Wq.notB rfl (Wq.nil ?_))))
    refine Wt.chain rfl (Wl.call (Lost_spec (h.new (n02.trans n6))) rfl ?_)
    rintro _ _ ⟨rfl, rfl⟩
    refine Wl.nil ⟨rfl, n6, ?_⟩
    (repeat' (first | refine Wt.guardY rfl rfl ?_ | refine Wt.quiet rfl (Wq.moveE (by conv => { lhs; whnf }) (Wq.nil ?_)) | refine Wt.quiet rfl (Wq.nilP rfl (Wq.nil ?_)) | refine Wt.quiet rfl (Wq.fieldAddr rfl rfl (Wq.nil ?_))))
    refine Wt.quiet rfl (Wq.load1 rfl (fun w' n => (hrf.new n).bk.cell (o := 1) rfl) (Wq.nil ?_))
    (repeat' (first | refine Wt.nil ?_ | refine Wt.guardY rfl rfl ?_ | refine Wt.quiet rfl (Wq.pickFE rfl (by conv => { lhs; whnf }) (Wq.nil ?_)) | (refine Wt.quiet rfl (Wq.neq rfl rfl (fun _ => Wq.nil ?_) (fun _ => Wq.nil ?_)) <;> (first | (exfalso; omega) | skip))))
    (repeat' (first | refine Qseq.normal ?_ | refine Wc.skip ?_ | refine Wc.condF rfl ?_))
    exact ⟨rfl, ⟨rfl, rfl, rfl, rfl, trivial⟩, n6⟩
  rintro G w3 n3
  simp only [upds]
  replace o1 := o1.new (plain_one _) n3
  replace o2 := o2.new (plain_one _) n3
  have n03 := n02.trans n3
  have z3 := n3.size
  clear n3 n02 hrf
  (repeat' (first | refine Wl.assignE (by conv => { lhs; whnf }) ?_ | refine Wl.nil ?_ | refine Qseq.normal ?_ | refine Wc.seq ?_ | refine Wc.region ?_ | refine Wc.block ?_))
  refine Wc.loop (σ := Nat × List (List UInt8)) (fun s => [(0, pT b), (1, pT c), (5, .slice a1 ls.length c1), (6, .slice a2 ls.length c2), (7, vi s.1)]) (fun s W => s.1 ≤ ls.length ∧ s.2.length = ls.length ∧ OwnS (one vs) 9 1 (fun k => w.heap.size ≤ k) No W (.slice a1 ls.length c1) s.2 ∧ Chg (fun k => (Value.slice a1 ls.length c1).ownBlock = some k) w3 W) (fun s => ls.length - s.1) (0, ls) ⟨rfl, rfl, rfl, rfl, rfl, trivial⟩ ⟨Nat.zero_le _, rfl, o1, Chg.refl _ _⟩ ?_
  clear o1
  rintro ⟨i, la⟩ G1 W ⟨hi, hil, oa, cW⟩
  dsimp only at hi hil oa
  simp only [upds]
  (repeat' (first | refine Wl.moveE (by conv => { lhs; whnf }) ?_ | refine Wl.assignE (by conv => { lhs; whnf }) ?_ | refine Wl.nil ?_ | refine Wl.lenS rfl ?_ | refine Qseq.normal ?_ | refine Wc.seq ?_ | refine Wc.region ?_ | refine Wc.block ?_ | refine Wc.skip ?_ | refine Wc.exit ?_ | refine Qseq.exit ?_ | refine Qblk.hit ?_ | refine Qloop.exit ?_ | refine Wc.condT rfl ?_ | refine Wc.condF rfl ?_ | refine Wl.lss rfl rfl (fun _ => ?_) (fun _ => ?_)))
  · refine Wl.idxStore (q := [126]) oa rfl rfl (by omega) (by omega) rfl rfl rfl rfl rfl rfl fun p W1 o1 c1 => ?_
    (repeat' (first | refine Wl.moveE (by conv => { lhs; whnf }) ?_ | refine Wl.assignE (by conv => { lhs; whnf }) ?_ | refine Wl.nil ?_ | refine Qseq.normal ?_ | refine Wc.region ?_ | refine Qblk.normal ?_ | refine Wl.add rfl rfl (by omega) (by omega) ?_))
    exact Qloop.normal (i + 1, la.set ((i : Int).toNat) [126]) ⟨rfl, rfl, rfl, rfl, rfl, trivial⟩ ⟨by dsimp only; omega, by dsimp only; rw [List.length_set]; exact hil, o1, Chg.trans cW c1 fun _ _ e => e⟩ (by dsimp only; omega)
  replace o2 := o2.chg (plain_one _) cW fun k hk e => by have := h1 k e; have := h2 k hk; omega
  have n0W : New w W := Chg.trans n03 cW fun k hk e => by have := h1 k e; omega
  clear n03 cW oa hi hil
  have hgone : t.gone ≤ 4611686018427387904 := by unfold Tr.last at hlast; omega
  skip
  refine Wc.loop (σ := Nat) (fun k => [(0, pT b), (1, pT c), (6, .slice a2 ls.length c2), (8, .int .u64 k)]) (fun k W' => k ≤ 60 ∧ New W W') (fun k => 60 - k) 0 ⟨rfl, rfl, rfl, rfl, trivial⟩ ⟨Nat.zero_le _, Chg.refl _ _⟩ ?_
  rintro k G2 W' ⟨hk, nW⟩
  simp only [upds]
  have n0W' := n0W.trans nW
  obtain ⟨vk, hrf⟩ := h'.new n0W'
  obtain ⟨ak, ck, rfl, _, _⟩ := hrf.own.form
  have hg := h.new n0W'
  replace o2 := o2.new (plain_one _) nW
  have hl := hlast
  unfold Tr.last at hl
  (repeat' (first | refine Wl.moveE (by conv => { lhs; whnf }) ?_ | refine Wc.seq ?_ | refine Wc.region ?_ | refine Wl.nilP rfl ?_ | refine Wl.fieldAddr rfl rfl ?_))
  refine Wl.load1 rfl (hrf.bk.cell (o := 2) rfl) ?_
  (repeat' (refine Wl.lenS rfl ?_))
  refine Wl.convI rfl ?_
  rw [wu (by omega) (by omega)]
  refine Wl.addW rfl rfl ?_
  rw [show ((t.kept.length : Nat) : Int) + 3 = ((t.kept.length + 3 : Nat) : Int) by omega, wu (by omega) (by omega)]
  clear hlast
  (repeat' (first | refine Wl.moveE (by conv => { lhs; whnf }) ?_ | refine Wl.nil ?_ | refine Wl.guardY rfl rfl ?_ | refine Wl.guardN rfl rfl ?_ | refine Wl.pickTE rfl (by conv => { lhs; whnf }) ?_ | refine Wl.pickFE rfl (by conv => { lhs; whnf }) ?_ | refine Qseq.normal ?_ | refine Wc.seq ?_ | refine Wc.region ?_ | refine Wc.block ?_ | refine Wc.skip ?_ | refine Wc.exit ?_ | refine Qseq.exit ?_ | refine Qblk.hit ?_ | refine Qloop.exit ?_ | refine Wc.condT rfl ?_ | refine Wc.condF rfl ?_ | refine Wl.nilP rfl ?_ | refine Wl.fieldAddr rfl rfl ?_ | refine Wl.lss rfl rfl (fun _ => ?_) (fun _ => ?_)))
  · refine Wl.load1 rfl (hrf.bk.cell (o := 1) rfl) ?_
    (repeat' (refine Wl.moveE (by conv => { lhs; whnf }) ?_))
    refine Wl.addW rfl rfl ?_
    rw [show ((t.gone : Nat) : Int) + ((k : Nat) : Int) = ((t.gone + k : Nat) : Int) by omega, wu (by omega) (by omega)]
    (repeat' (first | refine Wl.moveE (by conv => { lhs; whnf }) ?_ | refine Wl.assignE (by conv => { lhs; whnf }) ?_ | refine Wl.nil ?_ | refine Qseq.normal ?_ | refine Wc.seq ?_ | refine Wc.region ?_))
    refine Wl.call (asks_spec hg ⟨_, hrf⟩ (by omega)) rfl ?_
    rintro _ W1 ⟨rfl, m1⟩
    (repeat' (first | refine Wl.moveE (by conv => { lhs; whnf }) ?_ | refine Wl.nil ?_ | refine Wl.notB rfl ?_ | refine Qseq.normal ?_ | refine Wc.region ?_ | refine Wc.skip ?_ | refine Qblk.normal ?_ | refine Wc.condF rfl ?_))
    refine Wl.addW rfl rfl ?_
    rw [show ((k : Nat) : Int) + 1 = ((k + 1 : Nat) : Int) by omega, wu (by omega) (by omega)]
    (repeat' (first | refine Wl.assignE (by conv => { lhs; whnf }) ?_ | refine Wl.nil ?_))
    exact Qloop.normal (k + 1) ⟨rfl, rfl, rfl, rfl, trivial⟩ ⟨by omega, nW.trans m1⟩ (by omega)
  all_goals
    refine Wl.call (asks_spec hg ⟨_, hrf⟩ (id := 0) (by omega)) rfl ?_
    rintro _ W1 ⟨rfl, m1⟩
    (try refine Wl.guardY rfl rfl ?_)
    (repeat' (first | refine Wl.moveE (by conv => { lhs; whnf }) ?_ | refine Wl.guardY rfl rfl ?_))
    refine Wl.call (Lines_spec (ht.new (n0W'.trans m1)) (hg.new m1)) rfl ?_
    rintro v3 W2 ⟨o3, m2⟩
    rw [hls] at o3
    (try refine Wl.guardY rfl rfl ?_)
    (repeat' (first | refine Wl.moveE (by conv => { lhs; whnf }) ?_ | refine Wl.guardY rfl rfl ?_))
    refine Wl.call (texts_spec (o3.rd goodS.mo) ((o2.new (plain_one _) (m1.trans m2)).rd goodS.mo)) rfl ?_
    rintro _ W3 ⟨rfl, m3⟩
    rw [decide_eq_true rfl]
    (try refine Wl.guardY rfl rfl ?_)
    (repeat' (first | refine Wl.assignE (by conv => { lhs; whnf }) ?_ | refine Wl.nil ?_ | refine Wl.pickTE rfl (by conv => { lhs; whnf }) ?_ | refine Qseq.normal ?_ | refine Wc.ret ?_))
    exact Qfn.ret1 rfl rfl ⟨_, rfl, rfl, ((n0W'.trans m1).trans m2).trans m3⟩
end Go.Proofs.YtjaendlcijmifaaDoor
