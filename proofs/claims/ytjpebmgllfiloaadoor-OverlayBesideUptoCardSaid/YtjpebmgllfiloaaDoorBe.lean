/-
  The walk of OverlayBeside.
-/
import Derived.Test.YtjpebmgllfiloaaDoorBs
import Derived.Test.YtjpebmgllfiloaaDoorSt
namespace Go.Proofs.YtjpebmgllfiloaaDoor
open Go Wk
open Go.RowKit (Below)
attribute [local irreducible] Go.Calls

set_option maxHeartbeats 1000000 in
set_option maxRecDepth 4000 in
theorem alike_spec {Pc Pd : Nat → Prop} {w : World} {cv dv : Value} {c d : List Nd} (hc : RdS rNd 3 Pc w cv c) (hd : RdS rNd 3 Pd w dv d) (A : AlikeP c d) (hl : c.length ≤ 512) (hp : ∀ (i : Nat) (x : Nd), c[i]? = some x → propsOk x.props = true) :
    Calls Tryd.prog 26 #[cv, dv] w (Ret fun r w' => r = .bool true ∧ New w w') := by
  obtain ⟨ca, cc, rfl, hcc1, hcc2⟩ := hc.form
  obtain ⟨da, dc, rfl, hdc1, hdc2⟩ := hd.form
  have hlen := A.len
  refine calls_of_Wc Tryd.func26 rfl Tryd.ntmps26 rfl ?_
  (repeat' (first | refine Wl.moveE (by conv => { lhs; whnf }) ?_ | refine Wl.assignE (by conv => { lhs; whnf }) ?_ | refine Wl.nil ?_ | refine Wl.lenS rfl ?_ | refine Qseq.normal ?_ | refine Wc.seq ?_ | refine Wc.region ?_ | refine Wc.block ?_ | refine Wc.skip ?_ | refine Wc.condF rfl ?_ | (refine Wl.neq rfl rfl (fun _ => ?_) (fun _ => ?_) <;> (first | (exfalso; omega) | skip))))
  refine Wc.loop (σ := Nat) (fun i => [(0, .slice ca c.length cc), (1, .slice da d.length dc), (5, vi i)]) (fun i w' => i ≤ c.length ∧ New w w') (fun i => c.length - i) 0 ⟨rfl, rfl, rfl, trivial⟩ ⟨Nat.zero_le _, Chg.refl _ _⟩ ?_
  rintro i G w1 ⟨hi, n1⟩
  have hc1 := hc.keep stableNd n1.keep
  have hd1 := hd.keep stableNd n1.keep
  simp only [upds]
  (repeat' (first | refine Wl.moveE (by conv => { lhs; whnf }) ?_ | refine Wl.assignE (by conv => { lhs; whnf }) ?_ | refine Wl.nil ?_ | refine Wl.lenS rfl ?_ | refine Qseq.normal ?_ | refine Wc.seq ?_ | refine Wc.region ?_ | refine Wc.block ?_ | refine Wc.skip ?_ | refine Wc.exit ?_ | refine Wc.ret ?_ | refine Qseq.exit ?_ | refine Qblk.hit ?_ | refine Qloop.exit ?_ | refine Wc.condT rfl ?_ | refine Wc.condF rfl ?_ | refine Wl.lss rfl rfl (fun _ => ?_) (fun _ => ?_)))
  · obtain ⟨x, hx⟩ := get_lt c (k := i) (by omega)
    obtain ⟨y, hy⟩ := get_lt d (k := i) (by omega)
    obtain ⟨e1, e2, e3, hval⟩ := A.nd i x y hx hy
    have hxp := hp i x hx
    have hxl := propsOk_len hxp
    refine Wc.regionN rfl (by kernel_rfl) ?_
    (repeat' (refine Wq.moveE (by conv => { lhs; whnf }) ?_))
    refine Wq.idxAddr hc1 (fun w' hw => New.keep hw) rfl rfl (by omega) hx fun b o cs hl hR hat => ?_
    obtain ⟨xv, rfl, hxr⟩ := hR
    obtain ⟨xa, xc, rfl, hxc1, hxc2⟩ := hxr.form
    (repeat' (refine Wq.fieldAddr rfl rfl ?_))
    refine Wq.load1 rfl (fun w' hw => (hat w' hw).get 0 rfl) ?_
    clear hat
    (repeat' (refine Wq.moveE (by conv => { lhs; whnf }) ?_))
    refine Wq.idxAddr hd1 (fun w' hw => New.keep hw) rfl rfl (by omega) hy fun b o cs hl hR hat => ?_
    obtain ⟨yv, rfl, hyr⟩ := hR
    obtain ⟨ya, yc, rfl, hyc1, hyc2⟩ := hyr.form
    (repeat' (refine Wq.fieldAddr rfl rfl ?_))
    refine Wq.load1 rfl (fun w' hw => (hat w' hw).get 0 rfl) ?_
    clear hat
    (repeat' (first | refine Wq.moveE (by conv => { lhs; whnf }) ?_ | refine Wq.guardY rfl rfl ?_ | (refine Wq.neq rfl rfl (fun _ => ?_) (fun _ => ?_) <;> (first | (exfalso; omega) | skip))))
    refine Wq.idxAddr hc1 (fun w' hw => New.keep hw) rfl rfl (by omega) hx fun b o cs hl hR hat => ?_
    obtain ⟨_, rfl, _⟩ := hR
    (repeat' (first | refine Wq.guardY rfl rfl ?_ | refine Wq.fieldAddr rfl rfl ?_))
    refine Wq.load1 rfl (fun w' hw => (hat w' hw).get 1 rfl) ?_
    clear hat
    (repeat' (first | refine Wq.moveE (by conv => { lhs; whnf }) ?_ | refine Wq.guardY rfl rfl ?_))
    refine Wq.idxAddr hd1 (fun w' hw => New.keep hw) rfl rfl (by omega) hy fun b o cs hl hR hat => ?_
    obtain ⟨_, rfl, _⟩ := hR
    (repeat' (first | refine Wq.guardY rfl rfl ?_ | refine Wq.fieldAddr rfl rfl ?_))
    refine Wq.load1 rfl (fun w' hw => (hat w' hw).get 1 rfl) ?_
    clear hat
    (repeat' (first | refine Wq.moveE (by conv => { lhs; whnf }) ?_ | refine Wq.guardY rfl rfl ?_ | refine Wq.pickFE rfl (by conv => { lhs; whnf }) ?_ | (refine Wq.sneq rfl rfl (fun _ => ?_) (fun _ => ?_) <;> (first | (exfalso; contradiction) | skip))))
    refine Wq.idxAddr hc1 (fun w' hw => New.keep hw) rfl rfl (by omega) hx fun b o cs hl hR hat => ?_
    obtain ⟨v1, rfl, h1⟩ := hR
    obtain ⟨_, _, rfl, _, _⟩ := h1.form
    (repeat' (first | refine Wq.guardY rfl rfl ?_ | refine Wq.fieldAddr rfl rfl ?_))
    refine Wq.load1 rfl (fun w' hw => (hat w' hw).get 2 rfl) ?_
    clear hat
    (repeat' (first | refine Wq.moveE (by conv => { lhs; whnf }) ?_ | refine Wq.guardY rfl rfl ?_ | refine Wq.lenS rfl ?_))
    refine Wq.idxAddr hd1 (fun w' hw => New.keep hw) rfl rfl (by omega) hy fun b o cs hl hR hat => ?_
    obtain ⟨v2, rfl, h2⟩ := hR
    obtain ⟨_, _, rfl, _, _⟩ := h2.form
    (repeat' (first | refine Wq.guardY rfl rfl ?_ | refine Wq.fieldAddr rfl rfl ?_))
    refine Wq.load1 rfl (fun w' hw => (hat w' hw).get 2 rfl) ?_
    clear hat
    (repeat' (first | refine Wq.nil ?_ | refine Wq.guardY rfl rfl ?_ | refine Wq.pickFE rfl (by conv => { lhs; whnf }) ?_ | refine Wq.lenS rfl ?_ | (refine Wq.neq rfl rfl (fun _ => ?_) (fun _ => ?_) <;> (first | (exfalso; omega) | skip))))
    intro w2 n2
    (repeat' (first | refine Wl.assignE (by conv => { lhs; whnf }) ?_ | refine Wl.nil ?_ | refine Qseq.normal ?_ | refine Wc.seq ?_ | refine Wc.region ?_ | refine Wc.block ?_ | refine Wc.skip ?_ | refine Wc.condF rfl ?_))
    refine Wc.loop (σ := Nat) (fun j => [(0, .slice ca c.length cc), (1, .slice da d.length dc), (5, vi i), (6, vi j)]) (fun j w' => j ≤ x.props.length ∧ New w w') (fun j => x.props.length - j) 0 ⟨rfl, rfl, rfl, rfl, trivial⟩ ⟨Nat.zero_le _, New.trans n1 n2⟩ ?_
    rintro j G w3 ⟨hj, n3⟩
    have hc3 := hc.keep stableNd n3.keep
    have hd3 := hd.keep stableNd n3.keep
    clear h1 h2 hxr hyr
    simp only [upds]
    (repeat' (first | refine Wl.moveE (by conv => { lhs; whnf }) ?_ | refine Wc.seq ?_ | refine Wc.region ?_))
    refine Wl.idxAddr hc3 rfl rfl (by omega) hx fun b o cs hl hR hat => ?_
    obtain ⟨xv, rfl, hxr⟩ := hR
    obtain ⟨xa, xc, rfl, hxc1, hxc2⟩ := hxr.form
    (repeat' (refine Wl.fieldAddr rfl rfl ?_))
    refine Wl.load1 rfl (hat.get 2 rfl) ?_
    (repeat' (first | refine Wl.moveE (by conv => { lhs; whnf }) ?_ | refine Wl.assignE (by conv => { lhs; whnf }) ?_ | refine Wl.nil ?_ | refine Wl.lenS rfl ?_ | refine Qseq.normal ?_ | refine Wc.seq ?_ | refine Wc.region ?_ | refine Wc.block ?_ | refine Wc.skip ?_ | refine Wc.exit ?_ | refine Qseq.exit ?_ | refine Qblk.normal ?_ | refine Qblk.hit ?_ | refine Qloop.exit ?_ | refine Wc.condT rfl ?_ | refine Wc.condF rfl ?_ | refine Wl.add rfl rfl (by omega) (by omega) ?_ | refine Wl.lss rfl rfl (fun _ => ?_) (fun _ => ?_)))
    · obtain ⟨q, hq⟩ := get_lt x.props (k := j) (by omega)
      refine Wc.regionT rfl (by kernel_rfl) (New w3) (Chg.drew _ _) ?_
      intro w4 n4
      (repeat' (refine Wt.quiet rfl (Wq.moveE (by conv => { lhs; whnf }) (Wq.nil ?_))))
      refine Wt.quiet rfl (Wq.idxAddr hd3 (fun w' hw => New.keep hw) rfl rfl (by omega) hy fun b o cs hl hR hat => Wq.nil ?_)
      obtain ⟨yv, rfl, hyr⟩ := hR
      refine Wt.quiet rfl (Wq.loadAt hat rfl rfl (Wq.nil ?_))
      clear hat
      (repeat' (refine Wt.quiet rfl (Wq.moveE (by conv => { lhs; whnf }) (Wq.nil ?_))))
      refine Wt.quiet rfl (Wq.idxAddr hc3 (fun w' hw => New.keep hw) rfl rfl (by omega) hx fun b o cs hl hR hat => Wq.nil ?_)
      obtain ⟨xv, rfl, hxr⟩ := hR
      (repeat' (refine Wt.quiet rfl (Wq.fieldAddr rfl rfl (Wq.nil ?_))))
      refine Wt.quiet rfl (Wq.load1 rfl (fun w' hw => (hat w' hw).get 2 rfl) (Wq.nil ?_))
      clear hat
      (repeat' (refine Wt.quiet rfl (Wq.moveE (by conv => { lhs; whnf }) (Wq.nil ?_))))
      refine Wt.quiet rfl (Wq.idxAddr hxr (fun w' hw => New.keep hw) rfl rfl (by omega) hq fun b o cs hl hR hat => Wq.nil ?_)
      obtain rfl : cs = pC q := hR
      (repeat' (refine Wt.quiet rfl (Wq.fieldAddr rfl rfl (Wq.nil ?_))))
      refine Wt.quiet rfl (Wq.load1 rfl (fun w' hw => (hat w' hw).get 0 rfl) (Wq.nil ?_))
      refine Wt.chain rfl (Wl.call (value_spec (s := q.1) (hyr.keep (stable_flat pC) n4.keep)) rfl ?_)
      rintro _ w5 ⟨rfl, n5⟩
      replace n5 := New.trans n4 n5
      refine Wl.nil ⟨rfl, n5, ?_⟩
      have n35 := New.trans n3 n5
      have hc5 := hc.keep stableNd n35.keep
      rw [hval q (List.mem_of_getElem? hq)]
      (repeat' (first | refine Wt.nil ?_ | refine Wt.quiet rfl (Wq.moveE (by conv => { lhs; whnf }) (Wq.nil ?_)) | refine Wt.quiet rfl (Wq.assignE (by conv => { lhs; whnf }) (Wq.nil ?_)) | refine Wt.quiet rfl (Wq.extract rfl rfl (Wq.nil ?_))))
      (repeat' (first | refine Wl.moveE (by conv => { lhs; whnf }) ?_ | refine Wl.guardY rfl rfl ?_ | refine Wl.notB rfl ?_ | refine Qseq.normal ?_ | refine Wc.seq ?_ | refine Wc.region ?_))
      refine Wl.idxAddr hc5 rfl rfl (by omega) hx fun b o cs hl hR hat => ?_
      obtain ⟨xv, rfl, hxr⟩ := hR
      (repeat' (first | refine Wl.guardY rfl rfl ?_ | refine Wl.fieldAddr rfl rfl ?_))
      refine Wl.load1 rfl (hat.get 2 rfl) ?_
      (repeat' (first | refine Wl.moveE (by conv => { lhs; whnf }) ?_ | refine Wl.guardY rfl rfl ?_))
      refine Wl.idxAddr hxr rfl rfl (by omega) hq fun b o cs hl hR hat => ?_
      obtain rfl : cs = pC q := hR
      (repeat' (first | refine Wl.guardY rfl rfl ?_ | refine Wl.fieldAddr rfl rfl ?_))
      refine Wl.load1 rfl (hat.get 1 rfl) ?_
      (repeat' (refine Wl.guardY rfl rfl ?_))
      refine Wl.sneqSame rfl rfl ?_
      (repeat' (first | refine Wl.moveE (by conv => { lhs; whnf }) ?_ | refine Wl.assignE (by conv => { lhs; whnf }) ?_ | refine Wl.nil ?_ | refine Wl.pickFE rfl (by conv => { lhs; whnf }) ?_ | refine Qseq.normal ?_ | refine Wc.region ?_ | refine Wc.skip ?_ | refine Qblk.normal ?_ | refine Wc.condF rfl ?_ | refine Wl.add rfl rfl (by omega) (by omega) ?_))
      exact Qloop.normal (j + 1) ⟨rfl, rfl, rfl, rfl, trivial⟩ ⟨by omega, n35⟩ (by omega)
    · exact Qloop.normal (i + 1) ⟨rfl, rfl, rfl, trivial⟩ ⟨by omega, n3⟩ (by omega)
  · exact Qfn.ret1 rfl rfl ⟨_, rfl, rfl, n1⟩
theorem layM_ok {t u : List Nd} {p : Pc} (h : layM t p = (u, 0)) : treeOk u = true := (layF h).tu
set_option maxHeartbeats 4000000 in
set_option maxRecDepth 4000 in
theorem beside_law {Pb : Nat → Prop} {w : World} {tv nv dv nv2 dv2 : Value} {t : List Nd} {p q : Pc} (ht : RdS rNd 3 Pb w tv t) (hn : RdS rNd 3 Pb w nv p.nodes) (hd : RdS (one vs) 1 Pb w dv p.drop) (hs : p.target.length ≤ 2000000)
    (hn2 : RdS rNd 3 Pb w nv2 q.nodes) (hd2 : RdS (one vs) 1 Pb w dv2 q.drop) (hs2 : q.target.length ≤ 2000000) :
    Calls Tryd.prog 5 #[tv, .agg #[vs p.target, nv, dv], .agg #[vs q.target, nv2, dv2]] w (Ret fun r w' => r = .bool true ∧ New w w') := by
  obtain ⟨ta, tc, rfl, htc1, htc2⟩ := ht.form
  obtain ⟨na, nc, rfl, hnc1, hnc2⟩ := hn.form
  obtain ⟨da, dc, rfl, hdc1, hdc2⟩ := hd.form
  obtain ⟨na2, nc2, rfl, hnc3, hnc4⟩ := hn2.form
  obtain ⟨da2, dc2, rfl, hdc3, hdc4⟩ := hd2.form
  simp only [maxLen] at htc2
  refine calls_of_Wc Tryd.func5 rfl Tryd.ntmps5 rfl ?_
  (repeat' (first | refine Wc.seq ?_ | refine Wc.region ?_))
  refine Wl.box rfl fun w1 b1 n1 s1 => ?_
  replace b1 : Bk w1 w.heap.size 25 [vs p.target, .slice na p.nodes.length nc, .slice da p.drop.length dc] := b1
  refine Wl.box rfl fun w2 c2 n2 s2 => ?_
  replace c2 : Bk w2 w1.heap.size 25 [vs q.target, .slice na2 q.nodes.length nc2, .slice da2 q.drop.length dc2] := c2
  replace b1 := b1.chg n2 id
  replace n2 := New.trans n1 n2
  (repeat' (first | refine Wl.assignE (by conv => { lhs; whnf }) ?_ | refine Wl.nil ?_ | refine Qseq.normal ?_ | refine Wc.seq ?_ | refine Wc.region ?_))
  refine Wl.call awake_spec rfl ?_
  rintro _ w3 ⟨rfl, n3⟩
  replace b1 := b1.chg n3 id
  replace c2 := c2.chg n3 id
  replace n3 := New.trans n2 n3
  (repeat' (first | refine Wl.nil ?_ | refine Wl.notB rfl ?_ | refine Qseq.normal ?_ | refine Wc.seq ?_ | refine Wc.region ?_ | refine Wc.skip ?_ | refine Wc.condF rfl ?_ | refine Wl.fieldAddr rfl rfl ?_))
  refine Wl.store1 (u := .slice none 0 0) b1 rfl (show (2 : Nat) < 3 by omega) rfl rfl fun w4 b4 c4 => ?_
  replace b4 : Bk w4 w.heap.size 25 [vs p.target, .slice na p.nodes.length nc, .slice none 0 0] := b4
  replace c2 := c2.chg c4 (by omega)
  have n4 : New w w4 := Chg.trans n3 c4 fun k hk e => by omega
  (repeat' (first | refine Wl.nil ?_ | refine Qseq.normal ?_ | refine Wc.seq ?_ | refine Wc.region ?_ | refine Wl.fieldAddr rfl rfl ?_))
  refine Wl.store1 (u := .slice none 0 0) c2 rfl (show (2 : Nat) < 3 by omega) rfl rfl fun w5 c5 d5 => ?_
  replace c5 : Bk w5 w1.heap.size 25 [vs q.target, .slice na2 q.nodes.length nc2, .slice none 0 0] := c5
  replace b4 := b4.chg d5 (by omega)
  have n5 : New w w5 := Chg.trans n4 d5 fun k hk e => by omega
  clear b1 c2 c4 d5 n1 n2 n3 n4
  obtain ⟨p0, hp1, hp2, hp3⟩ : ∃ p0 : Pc, p0.target = p.target ∧ p0.nodes = p.nodes ∧ p0.drop = [] := ⟨⟨p.target, p.nodes, []⟩, rfl, rfl, rfl⟩
  obtain ⟨q0, hq1, hq2, hq3⟩ : ∃ q0 : Pc, q0.target = q.target ∧ q0.nodes = q.nodes ∧ q0.drop = [] := ⟨⟨q.target, q.nodes, []⟩, rfl, rfl, rfl⟩
  rw [← hp1] at hs b4
  rw [← hp2] at hn b4
  rw [← hq1] at hs2 c5
  rw [← hq2] at hn2 c5
  have hd0 : ∀ w', RdS (one vs) 1 Pb w' (.slice none 0 0) p0.drop := fun w' => by rw [hp3]; exact RdS.nil
  have hd02 : ∀ w', RdS (one vs) 1 Pb w' (.slice none 0 0) q0.drop := fun w' => by rw [hq3]; exact RdS.nil
  clear hd hd2
  (repeat' (first | refine Wl.moveE (by conv => { lhs; whnf }) ?_ | refine Wl.nil ?_ | refine Qseq.normal ?_ | refine Wc.seq ?_ | refine Wc.region ?_))
  refine Wl.loadB b4 rfl rfl ?_
  refine Wl.call (Lay_spec (ht.keep stableNd n5.keep) (hn.keep stableNd n5.keep) (hd0 w5) hs) rfl ?_
  rintro _ w6 ⟨av, rfl, n6, lab1, pvs1, to1⟩
  replace b4 := b4.chg n6 id
  replace c5 := c5.chg n6 id
  replace n6 := New.trans n5 n6
  have ra := to1.rd.mono monoNd (Pb' := fun _ => True) fun _ _ _ => trivial
  clear to1
  obtain ⟨aa, ac, rfl, hac1, hac2⟩ := ra.form
  (repeat' (first | refine Wl.moveE (by conv => { lhs; whnf }) ?_ | refine Wl.assignE (by conv => { lhs; whnf }) ?_ | refine Wl.nil ?_ | refine Wl.extract rfl rfl ?_ | refine Qseq.normal ?_ | refine Wc.seq ?_ | refine Wc.region ?_))
  refine Wl.loadB c5 rfl rfl ?_
  refine Wl.call (Lay_spec (ht.keep stableNd n6.keep) (hn2.keep stableNd n6.keep) (hd02 w6) hs2) rfl ?_
  rintro _ w7 ⟨bv, rfl, n7, lab2, pvs2, to2⟩
  replace b4 := b4.chg n7 id
  replace c5 := c5.chg n7 id
  replace ra := ra.keep stableNd n7.keep
  replace n7 := New.trans n6 n7
  have rb := to2.rd.mono monoNd (Pb' := fun _ => True) fun _ _ _ => trivial
  clear to2 n6
  obtain ⟨ba, bc, rfl, hbc1, hbc2⟩ := rb.form
  have hbes : ∀ a b, layM t p0 = (a, 0) → layM t q0 = (b, 0) → _ := fun a b h1 h2 h3 h4 h5 => beside hp3 hq3 h1 h2 h3 h4 h5
  have hlfa : ∀ u, layM t p0 = (u, 0) → LayF t u p0 := fun u h => layF h
  have hlfb : ∀ u, layM t q0 = (u, 0) → LayF t u q0 := fun u h => layF h
  generalize layM t p0 = LA at ra hac1 hac2 hbes hlfa ⊢
  generalize layM t q0 = LB at rb hbc1 hbc2 hbes hlfb ⊢
  obtain ⟨a, e⟩ := LA
  obtain ⟨b, f⟩ := LB
  dsimp only at ra hac1 hac2 rb hbc1 hbc2 ⊢
  by_cases hcond : e = 0 ∧ f = 0 ∧ a.length = t.length ∧ b.length = t.length
  · obtain ⟨rfl, rfl, hla, hlb⟩ := hcond
    have FA := hlfa a rfl
    have FB := hlfb b rfl
    replace hbes := hbes a b rfl rfl hla hlb
    clear hlfa hlfb
    have htl := treeOk_len FA.tt
    have rt := ht.keep stableNd n7.keep
    have rn := hn.keep stableNd n7.keep
    have rn2 := hn2.keep stableNd n7.keep
    rw [hla, hlb]
    (repeat' (first | refine Wl.moveE (by conv => { lhs; whnf }) ?_ | refine Wl.assignE (by conv => { lhs; whnf }) ?_ | refine Wl.nil ?_ | refine Wl.extract rfl rfl ?_ | refine Wl.guardY rfl rfl ?_ | refine Wl.pickFE rfl (by conv => { lhs; whnf }) ?_ | refine Wl.lenS rfl ?_ | refine Qseq.normal ?_ | refine Wc.seq ?_ | refine Wc.region ?_ | refine Wc.block ?_ | refine Wc.skip ?_ | refine Wc.condF rfl ?_ | (refine Wl.neq rfl rfl (fun _ => ?_) (fun _ => ?_) <;> (first | (exfalso; omega) | skip))))
    refine Wc.loop (σ := Nat) (fun i => [(0, .slice ta t.length tc), (4, ptrV w.heap.size), (5, ptrV w1.heap.size), (7, .slice aa t.length ac), (9, .slice ba t.length bc), (11, vi i)])
      (fun i w' => i ≤ t.length ∧ New w7 w' ∧ ∀ j x, j < i → a[j]? = some x → ∀ r ∈ x.props, ¬ (namesB p0 (pathS (nmsOf t j)) r.1 = true ∧ namesB q0 (pathS (nmsOf t j)) r.1 = true)) (fun i => t.length - i) 0 ⟨rfl, rfl, rfl, rfl, rfl, rfl, trivial⟩ ⟨Nat.zero_le _, Chg.refl _ _, fun j x h => by omega⟩ ?_
    rintro i G w8 ⟨hi, n8, hall⟩
    simp only [upds]
    (repeat' (first | refine Wl.moveE (by conv => { lhs; whnf }) ?_ | refine Wl.nil ?_ | refine Wl.lenS rfl ?_ | refine Qseq.normal ?_ | refine Wc.seq ?_ | refine Wc.region ?_ | refine Wc.block ?_ | refine Wc.skip ?_ | refine Wc.exit ?_ | refine Qseq.exit ?_ | refine Qblk.hit ?_ | refine Qloop.exit ?_ | refine Wc.condT rfl ?_ | refine Wc.condF rfl ?_ | refine Wl.lss rfl rfl (fun _ => ?_) (fun _ => ?_)))
    · obtain ⟨x, hx⟩ := get_lt a (k := i) (by omega)
      have hxl := propsOk_len (treeOk_nd FA.tu hx).pr
      refine Wl.call (Path_spec FA.tt i (by omega) w8 (rt.keep stableNd n8.keep)) rfl ?_
      rintro _ w9 ⟨rfl, n9⟩
      replace n9 := New.trans n8 n9
      (repeat' (first | refine Wl.assignE (by conv => { lhs; whnf }) ?_ | refine Wl.nil ?_ | refine Qseq.normal ?_ | refine Wc.seq ?_ | refine Wc.region ?_ | refine Wc.block ?_))
      refine Wc.loop (σ := Nat) (fun j => [(0, .slice ta t.length tc), (4, ptrV w.heap.size), (5, ptrV w1.heap.size), (7, .slice aa t.length ac), (9, .slice ba t.length bc), (11, vi i), (12, vs (pathS (nmsOf t i))), (13, vi j)])
        (fun j w' => j ≤ x.props.length ∧ New w7 w' ∧ ∀ r ∈ x.props.take j, ¬ (namesB p0 (pathS (nmsOf t i)) r.1 = true ∧ namesB q0 (pathS (nmsOf t i)) r.1 = true)) (fun j => x.props.length - j) 0 ⟨rfl, rfl, rfl, rfl, rfl, rfl, rfl, rfl, trivial⟩ ⟨Nat.zero_le _, n9, by simp⟩ ?_
      rintro j G w10 ⟨hj, n10, hin⟩
      have ra10 : RdS rNd 3 (fun _ => True) w10 (.slice aa t.length ac) a := hla ▸ ra.keep stableNd n10.keep
      have b10 := b4.chg n10 id
      simp only [upds]
      (repeat' (first | refine Wl.moveE (by conv => { lhs; whnf }) ?_ | refine Wc.seq ?_ | refine Wc.region ?_))
      refine Wl.idxAddr ra10 rfl rfl (by omega) hx fun b o cs hl hR hat => ?_
      obtain ⟨xv, rfl, hxr⟩ := hR
      obtain ⟨xa, xc, rfl, hxc1, hxc2⟩ := hxr.form
      (repeat' (refine Wl.fieldAddr rfl rfl ?_))
      refine Wl.load1 rfl (hat.get 2 rfl) ?_
      clear hat
      (repeat' (first | refine Wl.moveE (by conv => { lhs; whnf }) ?_ | refine Wl.assignE (by conv => { lhs; whnf }) ?_ | refine Wl.nil ?_ | refine Wl.lenS rfl ?_ | refine Qseq.normal ?_ | refine Wc.seq ?_ | refine Wc.region ?_ | refine Wc.block ?_ | refine Wc.skip ?_ | refine Wc.exit ?_ | refine Qseq.exit ?_ | refine Qblk.normal ?_ | refine Qblk.hit ?_ | refine Qloop.exit ?_ | refine Wc.condT rfl ?_ | refine Wc.condF rfl ?_ | refine Wl.add rfl rfl (by omega) (by omega) ?_ | refine Wl.lss rfl rfl (fun _ => ?_) (fun _ => ?_)))
      · obtain ⟨r, hr⟩ := get_lt x.props (k := j) (by omega)
        refine Wl.idxAddr ra10 rfl rfl (by omega) hx fun b o cs hl hR hat => ?_
        obtain ⟨xv, rfl, hxr⟩ := hR
        (repeat' (refine Wl.fieldAddr rfl rfl ?_))
        refine Wl.load1 rfl (hat.get 2 rfl) ?_
        clear hat
        (repeat' (refine Wl.moveE (by conv => { lhs; whnf }) ?_))
        refine Wl.idxAddr hxr rfl rfl (by omega) hr fun b o cs hl hR hat => ?_
        obtain rfl : cs = pC r := hR
        (repeat' (refine Wl.fieldAddr rfl rfl ?_))
        refine Wl.load1 rfl (hat.get 0 rfl) ?_
        (repeat' (first | refine Wl.assignE (by conv => { lhs; whnf }) ?_ | refine Wl.nil ?_ | refine Qseq.normal ?_ | refine Wc.seq ?_ | refine Wc.region ?_))
        refine Wl.loadB b10 rfl rfl ?_
        (repeat' (refine Wl.moveE (by conv => { lhs; whnf }) ?_))
        refine Wl.call (names_spec (p := p0) FA.tn (rn.keep stableNd n10.keep) (hd0 w10) hs) rfl ?_
        rintro _ w11 ⟨rfl, n11⟩
        replace n11 := New.trans n10 n11
        have done : ∀ w', New w7 w' → ¬ (namesB p0 (pathS (nmsOf t i)) r.1 = true ∧ namesB q0 (pathS (nmsOf t i)) r.1 = true) → (j + 1 ≤ x.props.length ∧ New w7 w' ∧ ∀ r ∈ x.props.take (j + 1), ¬ (namesB p0 (pathS (nmsOf t i)) r.1 = true ∧ namesB q0 (pathS (nmsOf t i)) r.1 = true)) := fun w' hw hno => ⟨by omega, hw, fun s hs => by
          rw [take_snoc hr] at hs
          rcases List.mem_append.1 hs with hs | hs
          · exact hin s hs
          · simp at hs; subst hs; exact hno⟩
        cases hnm : namesB p0 (pathS (nmsOf t i)) r.1 with
        | false =>
          (repeat' (first | refine Wl.moveE (by conv => { lhs; whnf }) ?_ | refine Wl.assignE (by conv => { lhs; whnf }) ?_ | refine Wl.nil ?_ | refine Wl.guardN rfl rfl ?_ | refine Wl.pickFE rfl (by conv => { lhs; whnf }) ?_ | refine Qseq.normal ?_ | refine Wc.region ?_ | refine Wc.skip ?_ | refine Qblk.normal ?_ | refine Wc.condF rfl ?_ | refine Wl.add rfl rfl (by omega) (by omega) ?_))
          exact Qloop.normal (j + 1) ⟨rfl, rfl, rfl, rfl, rfl, rfl, rfl, rfl, trivial⟩ (done w11 n11 (by rw [hnm]; simp)) (by omega)
        | true =>
          (repeat' (first | refine Wl.moveE (by conv => { lhs; whnf }) ?_ | refine Wl.guardY rfl rfl ?_))
          refine Wl.loadB (c5.chg n11 id) rfl rfl ?_
          (repeat' (first | refine Wl.moveE (by conv => { lhs; whnf }) ?_ | refine Wl.guardY rfl rfl ?_))
          refine Wl.call (names_spec (p := q0) FB.tn (rn2.keep stableNd n11.keep) (hd02 w11) hs2) rfl ?_
          rintro _ w12 ⟨rfl, n12⟩
          replace n12 := New.trans n11 n12
          cases hnm2 : namesB q0 (pathS (nmsOf t i)) r.1 with
          | false =>
            (repeat' (first | refine Wl.moveE (by conv => { lhs; whnf }) ?_ | refine Wl.assignE (by conv => { lhs; whnf }) ?_ | refine Wl.nil ?_ | refine Wl.pickTE rfl (by conv => { lhs; whnf }) ?_ | refine Qseq.normal ?_ | refine Wc.region ?_ | refine Wc.skip ?_ | refine Qblk.normal ?_ | refine Wc.condF rfl ?_ | refine Wl.add rfl rfl (by omega) (by omega) ?_))
            exact Qloop.normal (j + 1) ⟨rfl, rfl, rfl, rfl, rfl, rfl, rfl, rfl, trivial⟩ (done w12 n12 (by rw [hnm2]; simp)) (by omega)
          | true =>
            (repeat' (first | refine Wl.assignE (by conv => { lhs; whnf }) ?_ | refine Wl.nil ?_ | refine Wl.pickTE rfl (by conv => { lhs; whnf }) ?_ | refine Qseq.normal ?_ | refine Wc.seq ?_ | refine Wc.region ?_ | refine Wc.ret ?_ | refine Qseq.ret ?_ | refine Qblk.ret ?_ | refine Qloop.ret ?_ | refine Wc.condT rfl ?_))
            exact Qfn.ret1 rfl rfl ⟨_, rfl, rfl, New.trans n7 n12⟩
      · have e : j = x.props.length := by omega
        subst e
        rw [List.take_length] at hin
        refine Qloop.normal (i + 1) ⟨rfl, rfl, rfl, rfl, rfl, rfl, trivial⟩ ⟨by omega, n10, fun k y hk hy => ?_⟩ (by omega)
        rcases Nat.lt_succ_iff_lt_or_eq.1 hk with h | rfl
        · exact hall k y h hy
        · rw [hx] at hy; cases hy; exact hin
    · obtain ⟨hcode, halike⟩ := hbes (fun k y hy => hall k y (by have := (List.getElem?_eq_some_iff.1 hy).1; omega) hy)
      refine Wl.loadB (c5.chg n8 id) rfl rfl ?_
      refine Wl.call (Lay_spec (hla ▸ ra.keep stableNd n8.keep) ((rn2.keep stableNd n8.keep).mono monoNd fun _ _ _ => trivial) (by rw [hq3]; exact RdS.nil) hs2) rfl ?_
      rintro _ w9 ⟨cv, rfl, n9, lab3, pvs3, to3⟩
      replace n9 := New.trans n8 n9
      have rc := to3.rd
      clear to3
      (repeat' (first | refine Wl.moveE (by conv => { lhs; whnf }) ?_ | refine Wl.assignE (by conv => { lhs; whnf }) ?_ | refine Wl.nil ?_ | refine Wl.extract rfl rfl ?_ | refine Qseq.normal ?_ | refine Wc.seq ?_ | refine Wc.region ?_))
      refine Wl.loadB (b4.chg n9 id) rfl rfl ?_
      refine Wl.call (Lay_spec (hlb ▸ rb.keep stableNd n9.keep) ((rn.keep stableNd n9.keep).mono monoNd fun _ _ _ => trivial) (by rw [hp3]; exact RdS.nil) hs) rfl ?_
      rintro _ w10 ⟨dv, rfl, n10, lab4, pvs4, to4⟩
      replace rc := rc.keep stableNd n10.keep
      replace n10 := New.trans n9 n10
      have rd := to4.rd
      clear to4
      rw [hcode] at halike ⊢
      have hokc : ∀ u, layM a q0 = (u, 0) → treeOk u = true := fun u h => layM_ok h
      generalize layM a q0 = LC at rc hcode halike hokc ⊢
      generalize layM b p0 = LD at rd hcode halike ⊢
      obtain ⟨c, g⟩ := LC
      obtain ⟨d, h⟩ := LD
      dsimp only at rc rd hcode halike ⊢
      subst hcode
      by_cases hg : g = 0
      · subst hg
        have A := halike rfl
        have hck := hokc c rfl
        (repeat' (first | refine Wl.moveE (by conv => { lhs; whnf }) ?_ | refine Wl.assignE (by conv => { lhs; whnf }) ?_ | refine Wl.nil ?_ | refine Wl.extract rfl rfl ?_ | refine Wl.guardY rfl rfl ?_ | refine Qseq.normal ?_ | refine Wc.seq ?_ | refine Wc.region ?_ | (refine Wl.eql rfl rfl (fun _ => ?_) (fun _ => ?_) <;> (first | (exfalso; omega) | skip)) | (refine Wl.neq rfl rfl (fun _ => ?_) (fun _ => ?_) <;> (first | (exfalso; omega) | skip))))
        refine Wl.call (alike_spec rc rd A (treeOk_len hck) fun i x hx => (treeOk_nd hck hx).pr) rfl ?_
        rintro _ w11 ⟨rfl, n11⟩
        (repeat' (first | refine Wl.assignE (by conv => { lhs; whnf }) ?_ | refine Wl.nil ?_ | refine Wl.guardY rfl rfl ?_ | refine Wl.pickTE rfl (by conv => { lhs; whnf }) ?_ | refine Wl.pickFE rfl (by conv => { lhs; whnf }) ?_ | refine Qseq.normal ?_ | refine Wc.ret ?_))
        exact Qfn.ret1 rfl rfl ⟨_, rfl, rfl, New.trans n7 (New.trans n10 n11)⟩
      · (repeat' (first | refine Wl.moveE (by conv => { lhs; whnf }) ?_ | refine Wl.assignE (by conv => { lhs; whnf }) ?_ | refine Wl.nil ?_ | refine Wl.extract rfl rfl ?_ | refine Wl.guardY rfl rfl ?_ | refine Wl.guardN rfl rfl ?_ | refine Wl.pickTE rfl (by conv => { lhs; whnf }) ?_ | refine Qseq.normal ?_ | refine Wc.seq ?_ | refine Wc.region ?_ | refine Wc.ret ?_ | (refine Wl.eql rfl rfl (fun _ => ?_) (fun _ => ?_) <;> (first | (exfalso; omega) | skip)) | (refine Wl.neq rfl rfl (fun _ => ?_) (fun _ => ?_) <;> (first | (exfalso; omega) | skip))))
        exact Qfn.ret1 rfl rfl ⟨_, rfl, rfl, New.trans n7 n10⟩
  · by_cases he : e = 0
    · subst he
      by_cases hf : f = 0
      · subst hf
        by_cases hla : a.length = t.length
        · have hlb : b.length ≠ t.length := fun h => hcond ⟨rfl, rfl, hla, h⟩
          (repeat' (first | refine Wl.moveE (by conv => { lhs; whnf }) ?_ | refine Wl.assignE (by conv => { lhs; whnf }) ?_ | refine Wl.nil ?_ | refine Wl.extract rfl rfl ?_ | refine Wl.guardY rfl rfl ?_ | refine Wl.pickFE rfl (by conv => { lhs; whnf }) ?_ | refine Wl.lenS rfl ?_ | refine Qseq.normal ?_ | refine Wc.seq ?_ | refine Wc.region ?_ | refine Wc.ret ?_ | refine Qseq.ret ?_ | refine Wc.condT rfl ?_ | (refine Wl.neq rfl rfl (fun _ => ?_) (fun _ => ?_) <;> (first | (exfalso; omega) | skip))))
          exact Qfn.ret1 rfl rfl ⟨_, rfl, rfl, n7⟩
        · (repeat' (first | refine Wl.moveE (by conv => { lhs; whnf }) ?_ | refine Wl.assignE (by conv => { lhs; whnf }) ?_ | refine Wl.nil ?_ | refine Wl.extract rfl rfl ?_ | refine Wl.guardY rfl rfl ?_ | refine Wl.guardN rfl rfl ?_ | refine Wl.pickTE rfl (by conv => { lhs; whnf }) ?_ | refine Wl.pickFE rfl (by conv => { lhs; whnf }) ?_ | refine Wl.lenS rfl ?_ | refine Qseq.normal ?_ | refine Wc.seq ?_ | refine Wc.region ?_ | refine Wc.ret ?_ | refine Qseq.ret ?_ | refine Wc.condT rfl ?_ | (refine Wl.neq rfl rfl (fun _ => ?_) (fun _ => ?_) <;> (first | (exfalso; omega) | skip))))
          exact Qfn.ret1 rfl rfl ⟨_, rfl, rfl, n7⟩
      · (repeat' (first | refine Wl.moveE (by conv => { lhs; whnf }) ?_ | refine Wl.assignE (by conv => { lhs; whnf }) ?_ | refine Wl.nil ?_ | refine Wl.extract rfl rfl ?_ | refine Wl.guardY rfl rfl ?_ | refine Wl.guardN rfl rfl ?_ | refine Wl.pickTE rfl (by conv => { lhs; whnf }) ?_ | refine Wl.pickFE rfl (by conv => { lhs; whnf }) ?_ | refine Qseq.normal ?_ | refine Wc.seq ?_ | refine Wc.region ?_ | refine Wc.ret ?_ | refine Qseq.ret ?_ | refine Wc.condT rfl ?_ | (refine Wl.neq rfl rfl (fun _ => ?_) (fun _ => ?_) <;> (first | (exfalso; omega) | skip))))
        exact Qfn.ret1 rfl rfl ⟨_, rfl, rfl, n7⟩
    · (repeat' (first | refine Wl.moveE (by conv => { lhs; whnf }) ?_ | refine Wl.assignE (by conv => { lhs; whnf }) ?_ | refine Wl.nil ?_ | refine Wl.extract rfl rfl ?_ | refine Wl.guardN rfl rfl ?_ | refine Wl.pickTE rfl (by conv => { lhs; whnf }) ?_ | refine Qseq.normal ?_ | refine Wc.seq ?_ | refine Wc.region ?_ | refine Wc.ret ?_ | refine Qseq.ret ?_ | refine Wc.condT rfl ?_ | (refine Wl.neq rfl rfl (fun _ => ?_) (fun _ => ?_) <;> (first | (exfalso; omega) | skip))))
      exact Qfn.ret1 rfl rfl ⟨_, rfl, rfl, n7⟩
end Go.Proofs.YtjpebmgllfiloaaDoor
