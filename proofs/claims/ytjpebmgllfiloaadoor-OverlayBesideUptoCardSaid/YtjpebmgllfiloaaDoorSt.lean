/-
  The walk of OverlayStays.
-/
import Derived.Test.YtjpebmgllfiloaaDoorSf
import Derived.Test.YtjpebmgllfiloaaDoorAw
namespace Go.Proofs.YtjpebmgllfiloaaDoor
open Go Wk
open Go.RowKit (Below)
attribute [local irreducible] Go.Calls

theorem layM_err {t : List Nd} {p : Pc} (h : (layM t p).2 ≠ 0) : (layM t p).1 = [] := by
  unfold layM at h ⊢
  by_cases h1 : treeOk t = true
  · rw [if_pos h1] at h ⊢
    by_cases h2 : pieceOk p = true
    · rw [if_pos h2] at h ⊢
      cases h3 : findM t p.target with
      | none => rfl
      | some i =>
        rw [h3] at h
        dsimp only at h ⊢
        generalize layG p.nodes p.nodes.length i 0 (dropG p.drop (knotsM t) i) (t.length : Int) = r at h ⊢
        obtain ⟨ok, G, c⟩ := r
        cases ok with
        | false => rfl
        | true =>
          dsimp only at h ⊢
          by_cases h5 : treeOk (flatG G G.length 0 (-1) []) = true
          · rw [if_pos h5] at h; exact absurd rfl h
          · rw [if_neg h5]
    · rw [if_neg h2]
  · rw [if_neg h1]
set_option maxHeartbeats 4000000 in
set_option maxRecDepth 4000 in
theorem stays_law {Pb : Nat → Prop} {w : World} {tv nv dv : Value} {t : List Nd} {p : Pc} (ht : RdS rNd 3 Pb w tv t) (hn : RdS rNd 3 Pb w nv p.nodes) (hd : RdS (one vs) 1 Pb w dv p.drop) (hs : p.target.length ≤ 2000000) :
    Calls Tryd.prog 4 #[tv, .agg #[vs p.target, nv, dv]] w (Ret fun r w' => r = .bool true ∧ New w w') := by
  obtain ⟨ta, tc, rfl, htc1, htc2⟩ := ht.form
  obtain ⟨na, nc, rfl, hnc1, hnc2⟩ := hn.form
  obtain ⟨da, dc, rfl, hdc1, hdc2⟩ := hd.form
  simp only [maxLen] at htc2 hnc2 hdc2
  refine calls_of_Wc Tryd.func4 rfl Tryd.ntmps4 rfl ?_
  (repeat' (first | refine Wc.seq ?_ | refine Wc.region ?_))
  refine Wl.box rfl fun w1 b1 n1 s1 => ?_
  replace b1 : Bk w1 w.heap.size 25 [vs p.target, .slice na p.nodes.length nc, .slice da p.drop.length dc] := b1
  (repeat' (first | refine Wl.assignE (by conv => { lhs; whnf }) ?_ | refine Wl.nil ?_ | refine Qseq.normal ?_ | refine Wc.seq ?_ | refine Wc.region ?_))
  refine Wl.call awake_spec rfl ?_
  rintro _ w2 ⟨rfl, n2⟩
  replace b1 := b1.chg n2 id
  replace n2 := New.trans n1 n2
  (repeat' (first | refine Wl.moveE (by conv => { lhs; whnf }) ?_ | refine Wl.nil ?_ | refine Wl.notB rfl ?_ | refine Qseq.normal ?_ | refine Wc.seq ?_ | refine Wc.region ?_ | refine Wc.skip ?_ | refine Wc.condF rfl ?_))
  refine Wl.loadB b1 rfl rfl ?_
  refine Wl.call (Lay_spec (ht.keep stableNd n2.keep) (hn.keep stableNd n2.keep) (hd.keep (stable_one _) n2.keep) hs) rfl ?_
  rintro _ w3 ⟨uv, rfl, n3, lab, pvs, to3⟩
  replace b1 := b1.chg n3 id
  have n03 := New.trans n2 n3
  have ru := to3.rd
  clear to3
  obtain ⟨ua, uc, rfl, huc1, huc2⟩ := ru.form
  simp only [maxLen] at huc2
  have herr := layM_err (t := t) (p := p)
  have hlf : ∀ u, layM t p = (u, 0) → LayF t u p := fun u h => layF h
  generalize layM t p = L at ru herr hlf huc1 huc2 ⊢
  obtain ⟨u, e⟩ := L
  dsimp only at ru herr huc1 huc2 ⊢
  by_cases he : e = 0
  rotate_left
  · have hu := herr he
    subst hu
    (repeat' (first | refine Wl.moveE (by conv => { lhs; whnf }) ?_ | refine Wl.assignE (by conv => { lhs; whnf }) ?_ | refine Wl.nil ?_ | refine Wl.extract rfl rfl ?_ | refine Wl.lenS rfl ?_ | refine Qseq.normal ?_ | refine Wc.seq ?_ | refine Wc.region ?_ | refine Wc.ret ?_ | refine Qseq.ret ?_ | refine Wc.condT rfl ?_ | (refine Wl.eql rfl rfl (fun _ => ?_) (fun _ => ?_) <;> (first | (exfalso; contradiction) | skip)) | (refine Wl.neq rfl rfl (fun _ => ?_) (fun _ => ?_) <;> (first | (exfalso; omega) | skip))))
    exact Qfn.ret1 rfl rfl ⟨_, rfl, rfl, n03⟩
  subst he
  have F := hlf u rfl
  clear herr hlf
  have htl := treeOk_len F.tt
  have hul := treeOk_len F.tu
  have hnl := treeOk_len F.tn
  have hnp := treeOk_pos F.tn
  have rt := ht.keep stableNd n03.keep
  have rn := hn.keep stableNd n03.keep
  have rd := hd.keep (stable_one _) n03.keep
  (repeat' (first | refine Wl.moveE (by conv => { lhs; whnf }) ?_ | refine Wl.assignE (by conv => { lhs; whnf }) ?_ | refine Wl.nil ?_ | refine Wl.extract rfl rfl ?_ | refine Qseq.normal ?_ | refine Wc.seq ?_ | refine Wc.region ?_ | refine Wc.block ?_ | refine Wc.skip ?_ | refine Wc.condF rfl ?_ | (refine Wl.neq rfl rfl (fun _ => ?_) (fun _ => ?_) <;> (first | (exfalso; omega) | skip))))
  refine Wc.loop (σ := Nat) (fun i => [(0, .slice ta t.length tc), (3, ptrV w.heap.size), (5, .slice ua u.length uc), (7, vi i)]) (fun i w' => i ≤ t.length ∧ New w3 w') (fun i => t.length - i) 0 ⟨rfl, rfl, rfl, rfl, trivial⟩ ⟨Nat.zero_le _, Chg.refl _ _⟩ ?_
  rintro i G w4 ⟨hi, n4⟩
  simp only [upds]
  (repeat' (first | refine Wl.moveE (by conv => { lhs; whnf }) ?_ | refine Wl.nil ?_ | refine Wl.lenS rfl ?_ | refine Qseq.normal ?_ | refine Wc.seq ?_ | refine Wc.region ?_ | refine Wc.block ?_ | refine Wc.skip ?_ | refine Wc.exit ?_ | refine Qseq.exit ?_ | refine Qblk.hit ?_ | refine Qloop.exit ?_ | refine Wc.condT rfl ?_ | refine Wc.condF rfl ?_ | refine Wl.fieldAddr rfl rfl ?_ | refine Wl.lss rfl rfl (fun _ => ?_) (fun _ => ?_)))
  · obtain ⟨x, hx⟩ := get_lt t (k := i) (by omega)
    obtain ⟨k, y, hy, hpk, hval⟩ := F.node i x hx
    have hkl : k < u.length := (List.getElem?_eq_some_iff.1 hy).1
    have hxp := (treeOk_nd F.tt hx).pr
    have hyp := (treeOk_nd F.tu hy).pr
    have hxl := propsOk_len hxp
    have hyl := propsOk_len hyp
    refine Wl.call (Path_spec F.tt i (by omega) w4 (rt.keep stableNd n4.keep)) rfl ?_
    rintro _ w5 ⟨rfl, n5⟩
    replace n5 := New.trans n4 n5
    (repeat' (first | refine Wl.moveE (by conv => { lhs; whnf }) ?_ | refine Wl.assignE (by conv => { lhs; whnf }) ?_ | refine Wl.nil ?_ | refine Qseq.normal ?_ | refine Wc.seq ?_ | refine Wc.region ?_))
    refine Wl.call (at_spec F.tu (ru.keep stableNd n5.keep)) rfl ?_
    rintro _ w6 ⟨⟨k', rfl, hk'⟩, n6⟩
    replace n6 := New.trans n5 n6
    obtain rfl : k' = (k : Int) := by
      rcases hk' with ⟨_, h⟩ | ⟨j, rfl, hj, h⟩
      · exact absurd hpk (h k hkl)
      · rw [nms_inj F.tu hj hkl (h.trans hpk.symm)]
    clear hk' n4 n5
    (repeat' (first | refine Wl.moveE (by conv => { lhs; whnf }) ?_ | refine Wl.assignE (by conv => { lhs; whnf }) ?_ | refine Wl.nil ?_ | refine Qseq.normal ?_ | refine Wc.seq ?_ | refine Wc.region ?_ | refine Wc.block ?_ | refine Wc.skip ?_ | refine Wc.condF rfl ?_ | (refine Wl.lss rfl rfl (fun _ => ?_) (fun _ => ?_) <;> (first | (exfalso; omega) | skip))))
    refine Wc.loop (σ := Nat) (fun j => [(0, .slice ta t.length tc), (3, ptrV w.heap.size), (5, .slice ua u.length uc), (7, vi i), (8, vs (pathS (nmsOf t i))), (9, vi k), (10, vi j)]) (fun j w' => j ≤ x.props.length ∧ New w3 w') (fun j => x.props.length - j) 0 ⟨rfl, rfl, rfl, rfl, rfl, rfl, rfl, trivial⟩ ⟨Nat.zero_le _, n6⟩ ?_
    rintro j G w7 ⟨hj, n7⟩
    simp only [upds]
    (repeat' (first | refine Wl.moveE (by conv => { lhs; whnf }) ?_ | refine Wc.seq ?_ | refine Wc.region ?_))
    refine Wl.idxAddr (rt.keep stableNd n7.keep) rfl rfl (by omega) hx fun b o cs hl hR hat => ?_
    obtain ⟨xv, rfl, hxr⟩ := hR
    obtain ⟨xa, xc, rfl, hxc1, hxc2⟩ := hxr.form
    (repeat' (refine Wl.fieldAddr rfl rfl ?_))
    refine Wl.load1 rfl (hat.get 2 rfl) ?_
    (repeat' (first | refine Wl.moveE (by conv => { lhs; whnf }) ?_ | refine Wl.assignE (by conv => { lhs; whnf }) ?_ | refine Wl.nil ?_ | refine Wl.lenS rfl ?_ | refine Qseq.normal ?_ | refine Wc.seq ?_ | refine Wc.region ?_ | refine Wc.block ?_ | refine Wc.skip ?_ | refine Wc.exit ?_ | refine Qseq.exit ?_ | refine Qblk.hit ?_ | refine Qloop.exit ?_ | refine Wc.condT rfl ?_ | refine Wc.condF rfl ?_ | refine Wl.lss rfl rfl (fun _ => ?_) (fun _ => ?_)))
    · obtain ⟨q, hq⟩ := get_lt x.props (k := j) (by omega)
      refine Wl.idxAddr (rt.keep stableNd n7.keep) rfl rfl (by omega) hx fun b o cs hl hR hat => ?_
      obtain ⟨xv, rfl, hxr⟩ := hR
      (repeat' (refine Wl.fieldAddr rfl rfl ?_))
      refine Wl.load1 rfl (hat.get 2 rfl) ?_
      (repeat' (refine Wl.moveE (by conv => { lhs; whnf }) ?_))
      refine Wl.idxAddr hxr rfl rfl (by omega) hq fun b o cs hl hR hat => ?_
      obtain rfl : cs = pC q := hR
      refine Wl.loadAt hat rfl rfl ?_
      refine Wl.alloc fun w8 b8 n8 s8 => ?_
      refine Wl.storeB (new := pC q) b8 rfl rfl rfl rfl (show (2 : Nat) ≤ 2 from Nat.le_refl 2) (goodPr.oc (fun _ => True) w q _ rfl rfl) fun w9 b9 c9 s9 => ?_
      replace b9 : Bk w9 w7.heap.size 39 (pC q) := b9
      have n79 : New w7 w9 := Chg.trans n8 c9 fun b hb e => by omega
      have n39 := New.trans n7 n79
      clear n8 c9 b8
      (repeat' (first | refine Wl.nil ?_ | refine Qseq.normal ?_ | refine Wc.seq ?_))
      refine Wc.regionT rfl (by kernel_rfl) (New w9) (Chg.drew _ _) ?_
      intro w10 n10
      (repeat' (refine Wt.quiet rfl (Wq.moveE (by conv => { lhs; whnf }) (Wq.nil ?_))))
      refine Wt.quiet rfl (Wq.idxAddr (ru.keep stableNd n39.keep) (fun w' hw => New.keep hw) rfl rfl (by omega) hy fun b o cs hl hR hat => Wq.nil ?_)
      obtain ⟨yv, rfl, hyr⟩ := hR
      refine Wt.quiet rfl (Wq.loadAt hat rfl rfl (Wq.nil ?_))
      (repeat' (refine Wt.quiet rfl (Wq.fieldAddr rfl rfl (Wq.nil ?_))))
      refine Wt.quiet rfl (Wq.load1 rfl (fun w' hw => (b9.chg hw id).cell (o := 0) rfl) (Wq.nil ?_))
      refine Wt.chain rfl (Wl.call (value_spec (s := q.1) (hyr.keep (stable_flat pC) n10.keep)) rfl ?_)
      rintro _ w11 ⟨rfl, n11⟩
      replace n11 := New.trans n10 n11
      refine Wl.nil ⟨rfl, n11, ?_⟩
      have b11 := b9.chg n11 id
      have n311 := New.trans n39 n11
      have hvx : val x.props q.1 = some q.2 := val_mem (propsOk_nodup hxp) (List.mem_of_getElem? hq)
      have hvy : namesB p (pathS (nmsOf t i)) q.1 = false → val y.props q.1 = some q.2 := fun h => (hval q.1 h).trans hvx
      cases hnm : namesB p (pathS (nmsOf t i)) q.1 with
      | false =>
        rw [hvy hnm]
        (repeat' (first | refine Wt.nil ?_ | refine Wt.quiet rfl (Wq.moveE (by conv => { lhs; whnf }) (Wq.nil ?_)) | refine Wt.quiet rfl (Wq.assignE (by conv => { lhs; whnf }) (Wq.nil ?_)) | refine Wt.quiet rfl (Wq.extract rfl rfl (Wq.nil ?_))))
        (repeat' (first | refine Qseq.normal ?_ | refine Wc.seq ?_ | refine Wc.region ?_))
        refine Wl.loadB (b1.chg n311 id) rfl rfl ?_
        (repeat' (first | refine Wl.moveE (by conv => { lhs; whnf }) ?_ | refine Wl.fieldAddr rfl rfl ?_))
        refine Wl.load1 rfl (b11.cell (o := 0) rfl) ?_
        refine Wl.call (names_spec F.tn (rn.keep stableNd n311.keep) (rd.keep (stable_one _) n311.keep) hs) rfl ?_
        rintro _ w12 ⟨rfl, n12⟩
        rw [hnm]
        (repeat' (first | refine Wl.moveE (by conv => { lhs; whnf }) ?_ | refine Wl.guardY rfl rfl ?_ | refine Wl.notB rfl ?_ | refine Wl.fieldAddr rfl rfl ?_))
        refine Wl.load1 rfl ((b11.chg n12 id).cell (o := 1) rfl) ?_
        (repeat' (refine Wl.guardY rfl rfl ?_))
        refine Wl.sneqSame rfl rfl ?_
        (repeat' (first | refine Wl.moveE (by conv => { lhs; whnf }) ?_ | refine Wl.assignE (by conv => { lhs; whnf }) ?_ | refine Wl.nil ?_ | refine Wl.guardY rfl rfl ?_ | refine Wl.pickTE rfl (by conv => { lhs; whnf }) ?_ | refine Wl.pickFE rfl (by conv => { lhs; whnf }) ?_ | refine Qseq.normal ?_ | refine Wc.region ?_ | refine Wc.skip ?_ | refine Qblk.normal ?_ | refine Wc.condF rfl ?_ | refine Wl.add rfl rfl (by omega) (by omega) ?_))
        exact Qloop.normal (j + 1) ⟨rfl, rfl, rfl, rfl, rfl, rfl, rfl, trivial⟩ ⟨by omega, New.trans n311 n12⟩ (by omega)
      | true =>
        obtain ⟨vv, vb, hvv⟩ : ∃ vv vb, valV (val y.props q.1) = .tuple #[vs vv, .bool vb] := by
          cases val y.props q.1 with
          | none => exact ⟨_, _, rfl⟩
          | some v => exact ⟨_, _, rfl⟩
        rw [hvv]
        (repeat' (first | refine Wt.nil ?_ | refine Wt.quiet rfl (Wq.moveE (by conv => { lhs; whnf }) (Wq.nil ?_)) | refine Wt.quiet rfl (Wq.assignE (by conv => { lhs; whnf }) (Wq.nil ?_)) | refine Wt.quiet rfl (Wq.extract rfl rfl (Wq.nil ?_))))
        (repeat' (first | refine Qseq.normal ?_ | refine Wc.seq ?_ | refine Wc.region ?_))
        refine Wl.loadB (b1.chg n311 id) rfl rfl ?_
        (repeat' (first | refine Wl.moveE (by conv => { lhs; whnf }) ?_ | refine Wl.fieldAddr rfl rfl ?_))
        refine Wl.load1 rfl (b11.cell (o := 0) rfl) ?_
        refine Wl.call (names_spec F.tn (rn.keep stableNd n311.keep) (rd.keep (stable_one _) n311.keep) hs) rfl ?_
        rintro _ w12 ⟨rfl, n12⟩
        rw [hnm]
        (repeat' (first | refine Wl.moveE (by conv => { lhs; whnf }) ?_ | refine Wl.assignE (by conv => { lhs; whnf }) ?_ | refine Wl.nil ?_ | refine Wl.guardN rfl rfl ?_ | refine Wl.guardU rfl ?_ | refine Wl.pickFE rfl (by conv => { lhs; whnf }) ?_ | refine Wl.notB rfl ?_ | refine Qseq.normal ?_ | refine Wc.region ?_ | refine Wc.skip ?_ | refine Qblk.normal ?_ | refine Wc.condF rfl ?_ | refine Wl.add rfl rfl (by omega) (by omega) ?_))
        exact Qloop.normal (j + 1) ⟨rfl, rfl, rfl, rfl, rfl, rfl, rfl, trivial⟩ ⟨by omega, New.trans n311 n12⟩ (by omega)
    · refine Wc.loop (σ := Nat) (fun j => [(0, .slice ta t.length tc), (3, ptrV w.heap.size), (5, .slice ua u.length uc), (7, vi i), (8, vs (pathS (nmsOf t i))), (9, vi k), (14, vi j)]) (fun j w' => j ≤ y.props.length ∧ New w3 w') (fun j => y.props.length - j) 0 ⟨rfl, rfl, rfl, rfl, rfl, rfl, rfl, trivial⟩ ⟨Nat.zero_le _, n7⟩ ?_
      rintro j2 G w8 ⟨hj2, n8⟩
      simp only [upds]
      (repeat' (first | refine Wl.moveE (by conv => { lhs; whnf }) ?_ | refine Wc.seq ?_ | refine Wc.region ?_))
      refine Wl.idxAddr (ru.keep stableNd n8.keep) rfl rfl (by omega) hy fun b o cs hl hR hat => ?_
      obtain ⟨yv, rfl, hyr⟩ := hR
      obtain ⟨ya, yc, rfl, hyc1, hyc2⟩ := hyr.form
      (repeat' (refine Wl.fieldAddr rfl rfl ?_))
      refine Wl.load1 rfl (hat.get 2 rfl) ?_
      (repeat' (first | refine Wl.moveE (by conv => { lhs; whnf }) ?_ | refine Wl.assignE (by conv => { lhs; whnf }) ?_ | refine Wl.nil ?_ | refine Wl.lenS rfl ?_ | refine Qseq.normal ?_ | refine Wc.seq ?_ | refine Wc.region ?_ | refine Wc.block ?_ | refine Wc.skip ?_ | refine Wc.exit ?_ | refine Qseq.exit ?_ | refine Qblk.normal ?_ | refine Qblk.hit ?_ | refine Qloop.exit ?_ | refine Wc.condT rfl ?_ | refine Wc.condF rfl ?_ | refine Wl.add rfl rfl (by omega) (by omega) ?_ | refine Wl.lss rfl rfl (fun _ => ?_) (fun _ => ?_)))
      · obtain ⟨q, hq⟩ := get_lt y.props (k := j2) (by omega)
        refine Wc.regionT rfl (by kernel_rfl) (New w8) (Chg.drew _ _) ?_
        intro w10 n10
        (repeat' (refine Wt.quiet rfl (Wq.moveE (by conv => { lhs; whnf }) (Wq.nil ?_))))
        refine Wt.quiet rfl (Wq.idxAddr (rt.keep stableNd n8.keep) (fun w' hw => New.keep hw) rfl rfl (by omega) hx fun b o cs hl hR hat => Wq.nil ?_)
        obtain ⟨xv, rfl, hxr⟩ := hR
        refine Wt.quiet rfl (Wq.loadAt hat rfl rfl (Wq.nil ?_))
        (repeat' (refine Wt.quiet rfl (Wq.moveE (by conv => { lhs; whnf }) (Wq.nil ?_))))
        refine Wt.quiet rfl (Wq.idxAddr (ru.keep stableNd n8.keep) (fun w' hw => New.keep hw) rfl rfl (by omega) hy fun b o cs hl hR hat => Wq.nil ?_)
        obtain ⟨yv, rfl, hyr⟩ := hR
        (repeat' (refine Wt.quiet rfl (Wq.fieldAddr rfl rfl (Wq.nil ?_))))
        refine Wt.quiet rfl (Wq.load1 rfl (fun w' hw => (hat w' hw).get 2 rfl) (Wq.nil ?_))
        (repeat' (refine Wt.quiet rfl (Wq.moveE (by conv => { lhs; whnf }) (Wq.nil ?_))))
        refine Wt.quiet rfl (Wq.idxAddr hyr (fun w' hw => New.keep hw) rfl rfl (by omega) hq fun b o cs hl hR hat => Wq.nil ?_)
        obtain rfl : cs = pC q := hR
        (repeat' (refine Wt.quiet rfl (Wq.fieldAddr rfl rfl (Wq.nil ?_))))
        refine Wt.quiet rfl (Wq.load1 rfl (fun w' hw => (hat w' hw).get 0 rfl) (Wq.nil ?_))
        refine Wt.chain rfl (Wl.call (value_spec (s := q.1) (hxr.keep (stable_flat pC) n10.keep)) rfl ?_)
        rintro _ w11 ⟨rfl, n11⟩
        replace n11 := New.trans n10 n11
        refine Wl.nil ⟨rfl, n11, ?_⟩
        have n311 := New.trans n8 n11
        have hnmt : val x.props q.1 = none → namesB p (pathS (nmsOf t i)) q.1 = true := fun hv => by
          cases hnm : namesB p (pathS (nmsOf t i)) q.1 with
          | true => rfl
          | false =>
            have h1 := hval q.1 hnm
            rw [hv, val_mem (propsOk_nodup hyp) (List.mem_of_getElem? hq)] at h1
            cases h1
        cases hv : val x.props q.1 with
        | some vv =>
          (repeat' (first | refine Wt.nil ?_ | refine Wt.quiet rfl (Wq.moveE (by conv => { lhs; whnf }) (Wq.nil ?_)) | refine Wt.quiet rfl (Wq.assignE (by conv => { lhs; whnf }) (Wq.nil ?_)) | refine Wt.quiet rfl (Wq.extract rfl rfl (Wq.nil ?_))))
          (repeat' (first | refine Qseq.normal ?_ | refine Wc.seq ?_))
          refine Wc.regionT rfl (by kernel_rfl) (New w11) (Chg.drew _ _) ?_
          intro w12 n12
          (repeat' (first | refine Wt.nil ?_ | refine Wt.guardN rfl rfl (by assumption) ?_ | refine Wt.quiet rfl (Wq.moveE (by conv => { lhs; whnf }) (Wq.nil ?_)) | refine Wt.quiet rfl (Wq.pickFE rfl (by conv => { lhs; whnf }) (Wq.nil ?_)) | refine Wt.quiet rfl (Wq.notB rfl (Wq.nil ?_))))
          (repeat' (first | refine Wl.moveE (by conv => { lhs; whnf }) ?_ | refine Wl.assignE (by conv => { lhs; whnf }) ?_ | refine Wl.nil ?_ | refine Qseq.normal ?_ | refine Wc.region ?_ | refine Wc.skip ?_ | refine Qblk.normal ?_ | refine Wc.condF rfl ?_ | refine Wl.add rfl rfl (by omega) (by omega) ?_))
          exact Qloop.normal (j2 + 1) ⟨rfl, rfl, rfl, rfl, rfl, rfl, rfl, trivial⟩ ⟨by omega, New.trans n311 n12⟩ (by omega)
        | none =>
          have hnm := hnmt hv
          (repeat' (first | refine Wt.nil ?_ | refine Wt.quiet rfl (Wq.moveE (by conv => { lhs; whnf }) (Wq.nil ?_)) | refine Wt.quiet rfl (Wq.assignE (by conv => { lhs; whnf }) (Wq.nil ?_)) | refine Wt.quiet rfl (Wq.extract rfl rfl (Wq.nil ?_))))
          (repeat' (first | refine Qseq.normal ?_ | refine Wc.seq ?_))
          refine Wc.regionT rfl (by kernel_rfl) (New w11) (Chg.drew _ _) ?_
          intro w12 n12
          have n312 := New.trans n311 n12
          have b11 := b1.chg n311 id
          have hyr11 := ru.keep stableNd n311.keep
          (repeat' (first | refine Wt.guardY rfl rfl ?_ | refine Wt.quiet rfl (Wq.moveE (by conv => { lhs; whnf }) (Wq.nil ?_)) | refine Wt.quiet rfl (Wq.notB rfl (Wq.nil ?_))))
          refine Wt.quiet rfl (Wq.loadAt (fun w' hw => (b11.chg hw id).at) rfl rfl (Wq.nil ?_))
          (repeat' (first | refine Wt.guardY rfl rfl ?_ | refine Wt.quiet rfl (Wq.moveE (by conv => { lhs; whnf }) (Wq.nil ?_))))
          refine Wt.quiet rfl (Wq.idxAddr hyr11 (fun w' hw => New.keep hw) rfl rfl (by omega) hy fun b o cs hl hR hat => Wq.nil ?_)
          obtain ⟨yv, rfl, hyr⟩ := hR
          (repeat' (first | refine Wt.guardY rfl rfl ?_ | refine Wt.quiet rfl (Wq.fieldAddr rfl rfl (Wq.nil ?_))))
          refine Wt.quiet rfl (Wq.load1 rfl (fun w' hw => (hat w' hw).get 2 rfl) (Wq.nil ?_))
          (repeat' (first | refine Wt.guardY rfl rfl ?_ | refine Wt.quiet rfl (Wq.moveE (by conv => { lhs; whnf }) (Wq.nil ?_))))
          refine Wt.quiet rfl (Wq.idxAddr hyr (fun w' hw => New.keep hw) rfl rfl (by omega) hq fun b o cs hl hR hat => Wq.nil ?_)
          obtain rfl : cs = pC q := hR
          (repeat' (first | refine Wt.guardY rfl rfl ?_ | refine Wt.quiet rfl (Wq.fieldAddr rfl rfl (Wq.nil ?_))))
          refine Wt.quiet rfl (Wq.load1 rfl (fun w' hw => (hat w' hw).get 0 rfl) (Wq.nil ?_))
          try refine Wt.guardY rfl rfl ?_
          refine Wt.chain rfl (Wl.call (names_spec F.tn (rn.keep stableNd n312.keep) (rd.keep (stable_one _) n312.keep) hs) rfl ?_)
          rintro _ w13 ⟨rfl, n13⟩
          refine Wl.nil ⟨rfl, New.trans n12 n13, ?_⟩
          have hC13 := New.trans n12 n13
          rw [hnm]
          (repeat' (first | refine Wt.nil ?_ | refine Wt.guardY rfl rfl ?_ | refine Wt.quiet rfl (Wq.pickTE rfl (by conv => { lhs; whnf }) (Wq.nil ?_)) | refine Wt.quiet rfl (Wq.notB rfl (Wq.nil ?_))))
          (repeat' (first | refine Wl.moveE (by conv => { lhs; whnf }) ?_ | refine Wl.assignE (by conv => { lhs; whnf }) ?_ | refine Wl.nil ?_ | refine Qseq.normal ?_ | refine Wc.region ?_ | refine Wc.skip ?_ | refine Qblk.normal ?_ | refine Wc.condF rfl ?_ | refine Wl.add rfl rfl (by omega) (by omega) ?_))
          exact Qloop.normal (j2 + 1) ⟨rfl, rfl, rfl, rfl, rfl, rfl, rfl, trivial⟩ ⟨by omega, New.trans n312 n13⟩ (by omega)
      · exact Qloop.normal (i + 1) ⟨rfl, rfl, rfl, rfl, trivial⟩ ⟨by omega, n8⟩ (by omega)
  · obtain ⟨k, y, hy, hpk, hdr, hst⟩ := F.tgt
    have hkl : k < u.length := (List.getElem?_eq_some_iff.1 hy).1
    refine Wl.load1 rfl ((b1.chg n4 id).cell (o := 0) rfl) ?_
    refine Wl.call (at_spec F.tu (ru.keep stableNd n4.keep)) rfl ?_
    rintro _ w5 ⟨⟨k', rfl, hk'⟩, n5⟩
    replace n5 := New.trans n4 n5
    obtain rfl : k' = (k : Int) := by
      rcases hk' with ⟨_, h⟩ | ⟨j, rfl, hj, h⟩
      · exact absurd hpk (h k hkl)
      · rw [nms_inj F.tu hj hkl (h.trans hpk.symm)]
    clear hk' n4
    (repeat' (first | refine Wl.moveE (by conv => { lhs; whnf }) ?_ | refine Wl.assignE (by conv => { lhs; whnf }) ?_ | refine Wl.nil ?_ | refine Qseq.normal ?_ | refine Wc.seq ?_ | refine Wc.region ?_ | refine Wc.block ?_ | refine Wc.skip ?_ | refine Wc.condF rfl ?_ | (refine Wl.lss rfl rfl (fun _ => ?_) (fun _ => ?_) <;> (first | (exfalso; omega) | skip))))
    refine Wc.loop (σ := Nat) (fun j => [(0, .slice ta t.length tc), (3, ptrV w.heap.size), (5, .slice ua u.length uc), (17, vi k), (18, vi j)]) (fun j w' => j ≤ p.drop.length ∧ New w3 w') (fun j => p.drop.length - j) 0 ⟨rfl, rfl, rfl, rfl, rfl, trivial⟩ ⟨Nat.zero_le _, n5⟩ ?_
    rintro j G w6 ⟨hj, n6⟩
    have b6 := b1.chg n6 id
    simp only [upds]
    (repeat' (first | refine Wl.moveE (by conv => { lhs; whnf }) ?_ | refine Wc.seq ?_ | refine Wc.region ?_ | refine Wl.fieldAddr rfl rfl ?_))
    refine Wl.load1 rfl (b6.cell (o := 2) rfl) ?_
    (repeat' (first | refine Wl.assignE (by conv => { lhs; whnf }) ?_ | refine Wl.nil ?_ | refine Wl.lenS rfl ?_ | refine Qseq.normal ?_ | refine Wc.seq ?_ | refine Wc.region ?_ | refine Wc.block ?_ | refine Wc.skip ?_ | refine Wc.exit ?_ | refine Qseq.exit ?_ | refine Qblk.hit ?_ | refine Qloop.exit ?_ | refine Wc.condT rfl ?_ | refine Wc.condF rfl ?_ | refine Wl.lss rfl rfl (fun _ => ?_) (fun _ => ?_)))
    · obtain ⟨q, hq⟩ := get_lt p.drop (k := j) (by omega)
      refine Wc.regionT rfl (by kernel_rfl) (New w6) (Chg.drew _ _) ?_
      intro w7 n7
      (repeat' (refine Wt.quiet rfl (Wq.moveE (by conv => { lhs; whnf }) (Wq.nil ?_))))
      refine Wt.quiet rfl (Wq.idxAddr (ru.keep stableNd n6.keep) (fun w' hw => New.keep hw) rfl rfl (by omega) hy fun b o cs hl hR hat => Wq.nil ?_)
      obtain ⟨yv, rfl, hyr⟩ := hR
      refine Wt.quiet rfl (Wq.loadAt hat rfl rfl (Wq.nil ?_))
      (repeat' (refine Wt.quiet rfl (Wq.fieldAddr rfl rfl (Wq.nil ?_))))
      refine Wt.quiet rfl (Wq.load1 rfl (fun w' hw => (b6.chg hw id).cell (o := 2) rfl) (Wq.nil ?_))
      (repeat' (refine Wt.quiet rfl (Wq.moveE (by conv => { lhs; whnf }) (Wq.nil ?_))))
      refine Wt.quiet rfl (Wq.idxAddrV (rd.keep (stable_one _) n6.keep) (fun w' hw => New.keep hw) rfl rfl (by omega) hq (fun b o hc => Wq.nil ?_))
      refine Wt.quiet rfl (Wq.load1 rfl hc (Wq.nil ?_))
      refine Wt.chain rfl (Wl.call (value_spec (s := q) (hyr.keep (stable_flat pC) n7.keep)) rfl ?_)
      rintro _ w8 ⟨rfl, n8⟩
      replace n8 := New.trans n7 n8
      refine Wl.nil ⟨rfl, n8, ?_⟩
      rw [hdr q (List.mem_of_getElem? hq)]
      (repeat' (first | refine Wt.nil ?_ | refine Wt.quiet rfl (Wq.moveE (by conv => { lhs; whnf }) (Wq.nil ?_)) | refine Wt.quiet rfl (Wq.assignE (by conv => { lhs; whnf }) (Wq.nil ?_)) | refine Wt.quiet rfl (Wq.extract rfl rfl (Wq.nil ?_))))
      (repeat' (first | refine Wl.moveE (by conv => { lhs; whnf }) ?_ | refine Wl.assignE (by conv => { lhs; whnf }) ?_ | refine Wl.nil ?_ | refine Qseq.normal ?_ | refine Wc.seq ?_ | refine Wc.region ?_ | refine Wc.skip ?_ | refine Qblk.normal ?_ | refine Wc.condF rfl ?_ | refine Wl.add rfl rfl (by omega) (by omega) ?_))
      exact Qloop.normal (j + 1) ⟨rfl, rfl, rfl, rfl, rfl, trivial⟩ ⟨by omega, New.trans n6 n8⟩ (by omega)
    · obtain ⟨x0, hx0⟩ := get_lt p.nodes (k := 0) hnp
      have hx0l := propsOk_len (treeOk_nd F.tn hx0).pr
      replace hst := hst x0 hx0
      refine Wc.loop (σ := Nat) (fun j => [(0, .slice ta t.length tc), (3, ptrV w.heap.size), (5, .slice ua u.length uc), (17, vi k), (21, vi j)]) (fun j w' => j ≤ x0.props.length ∧ New w3 w') (fun j => x0.props.length - j) 0 ⟨rfl, rfl, rfl, rfl, rfl, trivial⟩ ⟨Nat.zero_le _, n6⟩ ?_
      rintro j G w6 ⟨hj, n6⟩
      have b6 := b1.chg n6 id
      have rn6 := rn.keep stableNd n6.keep
      have hlen := F.len
      simp only [upds]
      (repeat' (first | refine Wl.moveE (by conv => { lhs; whnf }) ?_ | refine Wc.seq ?_ | refine Wc.region ?_ | refine Wl.fieldAddr rfl rfl ?_))
      refine Wl.load1 rfl (b6.cell (o := 1) rfl) ?_
      skip
      refine Wl.idxAddr rn6 rfl rfl (by decide) (y := x0) hx0 fun b o cs hl hR hat => ?_
      obtain ⟨xv, rfl, hxr⟩ := hR
      obtain ⟨xa, xc, rfl, hxc1, hxc2⟩ := hxr.form
      (repeat' (refine Wl.fieldAddr rfl rfl ?_))
      refine Wl.load1 rfl (hat.get 2 rfl) ?_
      (repeat' (first | refine Wl.moveE (by conv => { lhs; whnf }) ?_ | refine Wl.assignE (by conv => { lhs; whnf }) ?_ | refine Wl.nil ?_ | refine Wl.lenS rfl ?_ | refine Qseq.normal ?_ | refine Wc.seq ?_ | refine Wc.region ?_ | refine Wc.block ?_ | refine Wc.skip ?_ | refine Wc.exit ?_ | refine Wc.ret ?_ | refine Qseq.exit ?_ | refine Qblk.hit ?_ | refine Qloop.exit ?_ | refine Wc.condT rfl ?_ | refine Wc.condF rfl ?_ | refine Wl.lss rfl rfl (fun _ => ?_) (fun _ => ?_) | (refine Wl.geq rfl rfl (fun _ => ?_) (fun _ => ?_) <;> (first | (exfalso; omega) | skip))))
      · obtain ⟨q, hq⟩ := get_lt x0.props (k := j) (by omega)
        refine Wc.regionT rfl (by kernel_rfl) (New w6) (Chg.drew _ _) ?_
        intro w7 n7
        (repeat' (refine Wt.quiet rfl (Wq.moveE (by conv => { lhs; whnf }) (Wq.nil ?_))))
        refine Wt.quiet rfl (Wq.idxAddr (ru.keep stableNd n6.keep) (fun w' hw => New.keep hw) rfl rfl (by omega) hy fun b o cs hl hR hat => Wq.nil ?_)
        obtain ⟨yv, rfl, hyr⟩ := hR
        refine Wt.quiet rfl (Wq.loadAt hat rfl rfl (Wq.nil ?_))
        (repeat' (refine Wt.quiet rfl (Wq.fieldAddr rfl rfl (Wq.nil ?_))))
        refine Wt.quiet rfl (Wq.load1 rfl (fun w' hw => (b6.chg hw id).cell (o := 1) rfl) (Wq.nil ?_))
        refine Wt.quiet rfl (Wq.idxAddr rn6 (fun w' hw => New.keep hw) rfl rfl (by decide) (y := x0) hx0 fun b o cs hl hR hat => Wq.nil ?_)
        obtain ⟨xv, rfl, hxr⟩ := hR
        (repeat' (refine Wt.quiet rfl (Wq.fieldAddr rfl rfl (Wq.nil ?_))))
        refine Wt.quiet rfl (Wq.load1 rfl (fun w' hw => (hat w' hw).get 2 rfl) (Wq.nil ?_))
        (repeat' (refine Wt.quiet rfl (Wq.moveE (by conv => { lhs; whnf }) (Wq.nil ?_))))
        refine Wt.quiet rfl (Wq.idxAddr hxr (fun w' hw => New.keep hw) rfl rfl (by omega) hq fun b o cs hl hR hat => Wq.nil ?_)
        obtain rfl : cs = pC q := hR
        (repeat' (refine Wt.quiet rfl (Wq.fieldAddr rfl rfl (Wq.nil ?_))))
        refine Wt.quiet rfl (Wq.load1 rfl (fun w' hw => (hat w' hw).get 0 rfl) (Wq.nil ?_))
        refine Wt.chain rfl (Wl.call (value_spec (s := q.1) (hyr.keep (stable_flat pC) n7.keep)) rfl ?_)
        rintro _ w8 ⟨rfl, n8⟩
        replace n8 := New.trans n7 n8
        refine Wl.nil ⟨rfl, n8, ?_⟩
        have n68 := New.trans n6 n8
        have b8 := b1.chg n68 id
        have rn8 := rn.keep stableNd n68.keep
        rw [hst q (List.mem_of_getElem? hq)]
        (repeat' (first | refine Wt.nil ?_ | refine Wt.quiet rfl (Wq.moveE (by conv => { lhs; whnf }) (Wq.nil ?_)) | refine Wt.quiet rfl (Wq.assignE (by conv => { lhs; whnf }) (Wq.nil ?_)) | refine Wt.quiet rfl (Wq.extract rfl rfl (Wq.nil ?_))))
        (repeat' (first | refine Wl.moveE (by conv => { lhs; whnf }) ?_ | refine Wl.guardY rfl rfl ?_ | refine Wl.notB rfl ?_ | refine Qseq.normal ?_ | refine Wc.seq ?_ | refine Wc.region ?_ | refine Wl.fieldAddr rfl rfl ?_))
        refine Wl.load1 rfl (b8.cell (o := 1) rfl) ?_
        try refine Wl.guardY rfl rfl ?_
        refine Wl.idxAddr rn8 rfl rfl (by decide) (y := x0) hx0 fun b o cs hl hR hat => ?_
        obtain ⟨xv, rfl, hxr⟩ := hR
        (repeat' (first | refine Wl.guardY rfl rfl ?_ | refine Wl.fieldAddr rfl rfl ?_))
        refine Wl.load1 rfl (hat.get 2 rfl) ?_
        (repeat' (first | refine Wl.moveE (by conv => { lhs; whnf }) ?_ | refine Wl.guardY rfl rfl ?_))
        refine Wl.idxAddr hxr rfl rfl (by omega) hq fun b o cs hl hR hat => ?_
        obtain rfl : cs = pC q := hR
        (repeat' (first | refine Wl.guardY rfl rfl ?_ | refine Wl.fieldAddr rfl rfl ?_))
        refine Wl.load1 rfl (hat.get 1 rfl) ?_
        (repeat' (refine Wl.guardY rfl rfl ?_))
        refine Wl.sneqSame rfl rfl ?_
        (repeat' (first | refine Wl.moveE (by conv => { lhs; whnf }) ?_ | refine Wl.assignE (by conv => { lhs; whnf }) ?_ | refine Wl.nil ?_ | refine Wl.pickFE rfl (by conv => { lhs; whnf }) ?_ | refine Qseq.normal ?_ | refine Wc.region ?_ | refine Wc.skip ?_ | refine Qblk.normal ?_ | refine Wc.condF rfl ?_ | refine Wl.add rfl rfl (by omega) (by omega) ?_))
        exact Qloop.normal (j + 1) ⟨rfl, rfl, rfl, rfl, rfl, trivial⟩ ⟨by omega, n68⟩ (by omega)
      · exact Qfn.ret1 rfl rfl ⟨_, rfl, rfl, New.trans n03 n6⟩
end Go.Proofs.YtjpebmgllfiloaaDoor
