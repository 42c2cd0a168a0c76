/-
  The walk of tree.check: where nodes are no tree; the depths.
-/
import Derived.Test.YtjpebmgllfiloaaDoorTa
namespace Go.Proofs.YtjpebmgllfiloaaDoor
open Go Wk
open Go.RowKit (Below)
attribute [local irreducible] Go.Calls

theorem nameOk_no {s : List UInt8} (h : nameOk s = false) : nameNo s ≠ 0 := by unfold nameNo; rw [h]; decide
abbrev Kid := Int × List UInt8
def kidV (k : Kid) : Value := .agg #[vi k.1, vs k.2]
theorem kidV_inj {a b : Kid} (h : kidV a = kidV b) : a = b := by
  obtain ⟨a1, a2⟩ := a
  obtain ⟨b1, b2⟩ := b
  simp only [kidV, Value.agg.injEq] at h
  have h' := congrArg Array.toList h
  simp only [List.cons.injEq, and_true] at h'
  have e1 : a1 = b1 := by have := h'.1; simpa using this
  rw [e1, vs_inj h'.2]
theorem kidKeyed : Maps.Keyed Tryd.prog 129 :=
  Maps.Keyed.of_law (deep_law (m := 2) (by decide) (by kernel_rfl) (by kernel_rfl) (by rw [Tryd.underlying129]))
theorem keyKid (p : Int) (s : List UInt8) (h0 : 0 ≤ p) (h1 : p < 1000) (hs : s.length ≤ 31) : ∃ q, keyOf Tryd.prog 129 (kidV (p, s)) = some q := by
  have h1' : Tryd.prog.keyType 129 = true := by kernel_rfl
  have h2 : (kidV (p, s)).formed Tryd.prog 129 = true := by kernel_rfl
  have hc : Tryd.prog.cellsOf 129 = 2 := by kernel_rfl
  have hi : Tryd.prog.cellsOf 3 = 1 := by kernel_rfl
  have hst : Tryd.prog.cellsOf 9 = 1 := by kernel_rfl
  have hw : (Lit.int .i64 p).wf = true := by simp [Lit.wf, IntKind.min, IntKind.max, IntKind.signed, IntKind.bits]; omega
  have hl : (⟨s.toArray⟩ : ByteArray).size ≤ maxLen := by simp only [ByteArray.size, List.size_toArray, maxLen]; omega
  obtain ⟨D, hD⟩ : ∃ D, Tryd.prog.types.size = D + 1 := ⟨_, show Tryd.prog.types.size = (Tryd.prog.types.size - 1) + 1 by kernel_rfl⟩
  have e1 : Tryd.prog.keyLits (D + 1) 3 [vi p] = some [.int .i64 p] := by
    simp [Program.keyLits, Tryd.underlying3, hw]
  have e2 : Tryd.prog.keyLits (D + 1) 9 [vs s] = some [.string s] := by
    simp [Program.keyLits, Tryd.underlying9, hl]
  have h3 : ∃ L, Tryd.prog.keyLits (Tryd.prog.types.size + 1) 129 [vi p, vs s] = some L := by
    rw [hD]
    refine ⟨[.int .i64 p, .string s], ?_⟩
    simp [Program.keyLits, Tryd.underlying129, Tryd.underlying3, Tryd.underlying9, hc, hi, hst, hw, hl]
  obtain ⟨L, h3⟩ := h3
  unfold keyOf
  rw [Tryd.underlying129]
  simp only [h1', h2, Bool.and_self, if_true]
  exact ⟨_, by rw [show (kidV (p, s)).cells.toList = [vi p, vs s] from rfl, h3]; rfl⟩

/-- Where nodes are no tree, or the depths. -/
def chkGo : Nat → List Int → List Int → List Kid → List Nd → Int × Option (List Int)
  | _, dp, _, _, [] => (0, some dp)
  | i, dp, pt, sn, x :: r =>
    if 512 ≤ i ∨ propsOk x.props = false then ((i : Int), none)
    else if i = 0 then (if x.parent ≠ -1 ∨ x.name ≠ [] then (0, none) else chkGo 1 (dp ++ [1]) [0] sn r)
    else if nameOk x.name = false ∨ x.parent < 0 ∨ (i : Int) ≤ x.parent then ((i : Int), none)
    else if (pt.length : Int) < dp.getD x.parent.toNat 0 ∨ pt.getD (dp.getD x.parent.toNat 0 - 1).toNat 0 ≠ x.parent ∨ 16 < dp.getD x.parent.toNat 0 + 1 ∨ sn.contains (x.parent, x.name) = true then ((i : Int), none)
    else chkGo (i + 1) (dp ++ [dp.getD x.parent.toNat 0 + 1]) (pt.take (dp.getD x.parent.toNat 0).toNat ++ [(i : Int)]) (sn ++ [(x.parent, x.name)]) r
def ndC (x : Nd) (v : Value) : List Value := [vi x.parent, vs x.name, v]

set_option maxRecDepth 4000 in
set_option maxHeartbeats 1000000 in
theorem check_spec {Pb : Nat → Prop} {w : World} {v : Value} {l : List Nd} (h : RdS rNd 3 Pb w v l) :
    Calls Tryd.prog 77 #[v] w (Ret fun r w' => (∃ u, r = .tuple #[vi (chkGo 0 [] [] [] l).1, u, .bool ((chkGo 0 [] [] [] l).2.isSome && decide (0 < l.length))]) ∧ New w w') := by
  obtain ⟨a, cap, rfl, hc1, hc2⟩ := h.form
  simp only [maxLen] at hc2
  refine calls_of_Wc (n := 116) Tryd.func77 rfl rfl rfl ?_
  (repeat' (first | refine Wl.moveE (by conv => { lhs; whnf }) ?_ | refine Wl.assignE (by conv => { lhs; whnf }) ?_ | refine Wl.nil ?_ | refine Wl.lenS rfl ?_ | refine Qseq.normal ?_ | refine Wc.seq ?_ | refine Wc.region ?_))
  refine Wl.minI rfl rfl ?_
  refine Wl.make0 (R := one vi) (Pe := fun _ => False) (c := if (512 : Int) < (l.length : Int) then 512 else (l.length : Int)) rfl rfl (by split <;> omega) (by split <;> omega) (by split <;> omega) fun vd w1 od n1 => ?_
  (repeat' (first | refine Wl.assignE (by conv => { lhs; whnf }) ?_ | refine Wl.nil ?_ | refine Qseq.normal ?_ | refine Wc.seq ?_ | refine Wc.region ?_))
  refine Wl.makeMap (k := 129) fun w2 m2 n2 s2 => ?_
  have od2 := (od.mono (Pb' := fun b => w.heap.size ≤ b ∧ b ≠ w1.heap.size) (mono_one _) (fun b hb h => ⟨h, by omega⟩) (fun _ _ h => h)).new (plain_one _) n2
  clear od
  replace n2 := New.trans n1 n2
  have hs1 := n1.size
  generalize hbm : w1.heap.size = bm at m2 od2
  (repeat' (first | refine Wl.moveE (by conv => { lhs; whnf }) ?_ | refine Wl.assignE (by conv => { lhs; whnf }) ?_ | refine Wl.nil ?_ | refine Wl.lenS rfl ?_ | refine Qseq.normal ?_ | refine Wc.seq ?_ | refine Wc.region ?_ | refine Wc.block ?_))
  refine Wc.loop (σ := Nat × Value × Value × List Int × List Int × List Kid) (fun s => [(0, .slice a l.length cap), (5, s.2.1), (6, s.2.2.1), (7, .map (some bm)), (17, .slice a l.length cap), (18, vi l.length), (19, vi s.1)])
    (fun s w' => s.1 ≤ l.length ∧ s.1 ≤ 512 ∧ chkGo 0 [] [] [] l = chkGo s.1 s.2.2.2.1 s.2.2.2.2.1 s.2.2.2.2.2 (l.drop s.1) ∧ s.2.2.2.1.length = s.1 ∧ (∀ x ∈ s.2.2.2.1, 1 ≤ x ∧ x ≤ 16) ∧ s.2.2.2.2.1.length ≤ 17 ∧
      OwnS (one vi) 3 1 (fun b => w.heap.size ≤ b ∧ b ≠ bm) (fun _ => False) w' s.2.1 s.2.2.2.1 ∧ OwnS (one vi) 3 1 (fun b => w.heap.size ≤ b ∧ b ≠ bm) (fun _ => False) w' s.2.2.1 s.2.2.2.2.1 ∧ Sep s.2.1 s.2.2.1 ∧
      MapL Tryd.prog 129 w' bm (setV kidV s.2.2.2.2.2) ∧ New w w') (fun s => l.length - s.1) (0, vd, .slice none 0 0, [], [], []) ⟨rfl, rfl, rfl, rfl, rfl, rfl, rfl, trivial⟩
    ⟨Nat.zero_le _, by simp, by simp, rfl, by simp, by simp, od2, OwnS.nil, fun _ _ => by simp [Value.ownBlock], m2, n2⟩ ?_
  rintro ⟨i, vd, vp, dp, pt, sn⟩ G w3 ⟨hi, h512, hgo, hdl, hd, hpl, od3, op3, hsep, m3, n3⟩
  dsimp only at hi h512 hgo hdl hd hpl od3 op3 hsep m3 n3
  obtain ⟨pp, cp, rfl, _, _⟩ := op3.form
  simp only [upds]
  (repeat' (first | refine Wl.moveE (by conv => { lhs; whnf }) ?_ | refine Wl.assignE (by conv => { lhs; whnf }) ?_ | refine Wl.nil ?_ | refine Wl.lenS rfl ?_ | refine Qseq.normal ?_ | refine Wc.seq ?_ | refine Wc.region ?_ | refine Wc.block ?_ | refine Wc.skip ?_ | refine Wc.exit ?_ | refine Wc.ret ?_ | refine Qseq.exit ?_ | refine Qblk.hit ?_ | refine Qloop.exit ?_ | refine Wc.condT rfl ?_ | refine Wc.condF rfl ?_ | refine Wl.lss rfl rfl (fun _ => ?_) (fun _ => ?_) | refine Wl.gtr rfl rfl (fun _ => ?_) (fun _ => ?_)))
  · obtain ⟨x, hx⟩ := get_lt l (k := i) (by omega)
    refine Wl.idxAddrK h n3.keep rfl rfl (by omega) hx fun b o cs hl hR hat => ?_
    obtain ⟨pv, rfl, hpr⟩ := hR
    refine Wl.loadAt hat rfl rfl ?_
    refine Wl.alloc fun w4 b4 n4 s4 => ?_
    (repeat' (refine Wl.assignE (by conv => { lhs; whnf }) ?_))
    refine Wl.storeB (new := [vi x.parent, vs x.name, pv]) b4 rfl rfl rfl rfl (show (3 : Nat) ≤ 3 from Nat.le_refl 3) (goodNd.oc Pb w x _ ⟨pv, rfl, hpr⟩ rfl) fun w5 b5 c5 s5 => ?_
    replace b5 : Bk w5 w3.heap.size 37 [vi x.parent, vs x.name, pv] := b5
    have m5 := (m3.keep n4.keep (Pb := fun _ => True) trivial).chg c5 (by have := m3.lt; omega)
    have od5 := (od3.new (plain_one _) n4).chg (plain_one _) c5 (fun k hk e => by have := (od3.lt hk).2; omega)
    have op5 := (op3.new (plain_one _) n4).chg (plain_one _) c5 (fun k hk e => by have := (op3.lt hk).2; omega)
    have hn3 := n3.size
    have n5 : New w w5 := Chg.trans (New.trans n3 n4) c5 fun k hk e => by omega
    have hbn : w3.heap.size ≠ bm := by have := m3.lt; omega
    clear m3 od3 op3 b4 c5 n4 n3
    rw [drop_cons hx] at hgo
    simp only [chkGo] at hgo
    (repeat' (first | refine Wl.moveE (by conv => { lhs; whnf }) ?_ | refine Wl.assignE (by conv => { lhs; whnf }) ?_ | refine Wl.nil ?_ | refine Wl.guardY rfl rfl ?_ | refine Wl.guardN rfl rfl ?_ | refine Wl.pickTE rfl (by conv => { lhs; whnf }) ?_ | refine Qseq.normal ?_ | refine Wc.seq ?_ | refine Wc.region ?_ | refine Wc.ret ?_ | refine Qseq.ret ?_ | refine Qblk.ret ?_ | refine Qloop.ret ?_ | refine Wc.condT rfl ?_ | refine Wl.fieldAddr rfl rfl ?_ | refine Wl.geq rfl rfl (fun _ => ?_) (fun _ => ?_)))
    · rw [if_pos (.inl (by omega))] at hgo
      rw [hgo]
      exact Qfn.ret3 rfl rfl rfl rfl ⟨_, rfl, ⟨_, rfl⟩, n5⟩
    · refine Wl.load1 rfl (b5.cell (o := 2) rfl) ?_
      refine Wl.guardY rfl rfl ?_
      refine Wl.call (props_spec (hpr.keep (stable_flat pC) n5.keep)) rfl ?_
      rintro _ w6 ⟨rfl, n6⟩
      have b6 := b5.keep n6.keep (Pb := fun _ => True) trivial
      have m6 := m5.keep n6.keep (Pb := fun _ => True) trivial
      have od6 := od5.new (plain_one _) n6
      have op6 := op5.new (plain_one _) n6
      replace n6 := New.trans n5 n6
      clear b5 m5 od5 op5
      cases hpo : propsOk x.props with
      | false =>
        (repeat' (first | refine Wl.moveE (by conv => { lhs; whnf }) ?_ | refine Wl.assignE (by conv => { lhs; whnf }) ?_ | refine Wl.nil ?_ | refine Wl.guardY rfl rfl ?_ | refine Wl.pickFE rfl (by conv => { lhs; whnf }) ?_ | refine Wl.notB rfl ?_ | refine Qseq.normal ?_ | refine Wc.seq ?_ | refine Wc.region ?_ | refine Wc.ret ?_ | refine Qseq.ret ?_ | refine Qblk.ret ?_ | refine Qloop.ret ?_ | refine Wc.condT rfl ?_))
        rw [if_pos (.inr hpo)] at hgo
        rw [hgo]
        exact Qfn.ret3 rfl rfl rfl rfl ⟨_, rfl, ⟨_, rfl⟩, n6⟩
      | true =>
        rw [if_neg (by rw [hpo]; simp; omega)] at hgo
        (repeat' (first | refine Wl.moveE (by conv => { lhs; whnf }) ?_ | refine Wl.nil ?_ | refine Wl.guardY rfl rfl ?_ | refine Wl.pickFE rfl (by conv => { lhs; whnf }) ?_ | refine Wl.notB rfl ?_ | refine Qseq.normal ?_ | refine Wc.seq ?_ | refine Wc.region ?_ | refine Wc.skip ?_ | refine Wc.condT rfl ?_ | refine Wc.condF rfl ?_ | refine Wl.fieldAddr rfl rfl ?_ | refine Wl.eql rfl rfl (fun _ => ?_) (fun _ => ?_)))
        · have e0 : i = 0 := by omega
          subst e0
          rw [if_pos rfl] at hgo
          refine Wl.load1 rfl (b6.cell (o := 0) rfl) ?_
          (repeat' (first | refine Wl.moveE (by conv => { lhs; whnf }) ?_ | refine Wl.assignE (by conv => { lhs; whnf }) ?_ | refine Wl.nil ?_ | refine Wl.guardY rfl rfl ?_ | refine Wl.guardN rfl rfl ?_ | refine Wl.pickTE rfl (by conv => { lhs; whnf }) ?_ | refine Qseq.normal ?_ | refine Wc.seq ?_ | refine Wc.region ?_ | refine Wc.ret ?_ | refine Qseq.ret ?_ | refine Qblk.ret ?_ | refine Qloop.ret ?_ | refine Wc.condT rfl ?_ | refine Wl.fieldAddr rfl rfl ?_ | refine Wl.neq rfl rfl (fun _ => ?_) (fun _ => ?_)))
          · rw [if_pos (.inl (by assumption))] at hgo
            rw [hgo]
            exact Qfn.ret3 rfl rfl rfl rfl ⟨_, rfl, ⟨_, rfl⟩, n6⟩
          · refine Wl.load1 rfl (b6.cell (o := 1) rfl) ?_
            (repeat' (first | refine Wl.assignE (by conv => { lhs; whnf }) ?_ | refine Wl.nil ?_ | refine Wl.guardY rfl rfl ?_ | refine Wl.pickFE rfl (by conv => { lhs; whnf }) ?_ | refine Qseq.normal ?_ | refine Wc.seq ?_ | refine Wc.region ?_ | refine Wc.skip ?_ | refine Wc.ret ?_ | refine Qseq.ret ?_ | refine Qblk.ret ?_ | refine Qloop.ret ?_ | refine Wc.condT rfl ?_ | refine Wc.condF rfl ?_ | refine Wl.sneq rfl rfl (fun _ => ?_) (fun _ => ?_)))
            · rw [if_pos (.inr (by assumption))] at hgo
              rw [hgo]
              exact Qfn.ret3 rfl rfl rfl rfl ⟨_, rfl, ⟨_, rfl⟩, n6⟩
            · rw [if_neg (by simp only [not_or, Decidable.not_not]; exact ⟨by assumption, by assumption⟩)] at hgo
              have s6 := n6.size
              refine Wl.buildSlice1 (R := one vi) (y := 0) (Pe := fun _ => False) (good_one _ fun _ => rfl) rfl rfl rfl rfl (by omega) (by omega) fun vp' w7 op7 n7 s7 hob => ?_
              have od7 := od6.new (plain_one _) n7
              have m7 := m6.keep n7.keep (Pb := fun _ => True) trivial
              have hm7 := m6.lt
              (repeat' (refine Wl.moveE (by conv => { lhs; whnf }) ?_))
              refine Wl.append1 (y := 1) (good_one _ fun _ => rfl) od7 rfl rfl rfl rfl rfl (by omega) (by omega) (by simp only [maxLen]; omega) (by omega) rfl rfl fun vd' w8 p od8 c8 lie => ?_
              (repeat' (first | refine Wl.moveE (by conv => { lhs; whnf }) ?_ | refine Wl.assignE (by conv => { lhs; whnf }) ?_ | refine Wl.nil ?_ | refine Qseq.normal ?_ | refine Wc.region ?_ | refine Wc.exit ?_ | refine Qseq.exit ?_ | refine Qblk.hit ?_ | refine Wl.add rfl rfl (by omega) (by omega) ?_))
              have hsp : Sep vp' vd := fun k hk hk' => by rw [hob] at hk; cases hk; have := (od6.lt hk').2; omega
              refine Qloop.normal (1, vd', vp', dp ++ [1], [0], sn) ⟨rfl, rfl, rfl, rfl, rfl, rfl, rfl, trivial⟩ ⟨by dsimp only; omega, by dsimp only; omega, hgo, by simp [hdl], ?_, by simp, od8.mono (mono_one _) (fun b hb h => by rcases h with h | h; exact h; exact ⟨by omega, by omega⟩) (fun _ _ h => h),
                (op7.mono (mono_one _) (fun b hb h => ⟨by omega, by omega⟩) (fun _ _ h => h)).chg (plain_one _) c8 hsp, (sepGrown op7 hsp lie).symm, m7.chg c8 (fun e => (od7.lt e).1.2 rfl), Chg.trans (New.trans n6 n7) c8 fun k hk e => by have := (od7.lt e).1.1; omega⟩ (by dsimp only; omega)
              intro y hy
              rcases List.mem_append.1 hy with hy | hy
              · exact hd y hy
              · simp at hy; omega
        · have hi0 : i ≠ 0 := by omega
          rw [if_neg hi0] at hgo
          refine Wl.load1 rfl (b6.cell (o := 1) rfl) ?_
          refine Wl.call (Name_spec (s := x.name)) rfl ?_
          rintro _ w7 ⟨rfl, n7⟩
          have b7 := b6.keep n7.keep (Pb := fun _ => True) trivial
          have m7 := m6.keep n7.keep (Pb := fun _ => True) trivial
          have od7 := od6.new (plain_one _) n7
          have op7 := op6.new (plain_one _) n7
          replace n7 := New.trans n6 n7
          clear b6 m6 od6 op6
          (repeat' (first | refine Wl.moveE (by conv => { lhs; whnf }) ?_ | refine Wl.assignE (by conv => { lhs; whnf }) ?_ | refine Wl.nil ?_ | refine Wl.guardY rfl rfl ?_ | refine Wl.guardN rfl rfl ?_ | refine Wl.pickTE rfl (by conv => { lhs; whnf }) ?_ | refine Qseq.normal ?_ | refine Wc.seq ?_ | refine Wc.region ?_ | refine Wc.ret ?_ | refine Qseq.ret ?_ | refine Qblk.ret ?_ | refine Qloop.ret ?_ | refine Wc.condT rfl ?_ | refine Wl.fieldAddr rfl rfl ?_ | refine Wl.neq rfl rfl (fun _ => ?_) (fun _ => ?_)))
          · rw [if_pos (.inl (nameNo_bad (by assumption)))] at hgo
            rw [hgo]
            exact Qfn.ret3 rfl rfl rfl rfl ⟨_, rfl, ⟨_, rfl⟩, n7⟩
          · have hnm := nameNo_ok (by assumption)
            refine Wl.load1 rfl (b7.cell (o := 0) rfl) ?_
            (repeat' (first | refine Wl.moveE (by conv => { lhs; whnf }) ?_ | refine Wl.assignE (by conv => { lhs; whnf }) ?_ | refine Wl.nil ?_ | refine Wl.guardY rfl rfl ?_ | refine Wl.guardN rfl rfl ?_ | refine Wl.pickTE rfl (by conv => { lhs; whnf }) ?_ | refine Wl.pickFE rfl (by conv => { lhs; whnf }) ?_ | refine Qseq.normal ?_ | refine Wc.seq ?_ | refine Wc.region ?_ | refine Wc.ret ?_ | refine Qseq.ret ?_ | refine Qblk.ret ?_ | refine Qloop.ret ?_ | refine Wc.condT rfl ?_ | refine Wl.fieldAddr rfl rfl ?_ | refine Wl.lss rfl rfl (fun _ => ?_) (fun _ => ?_)))
            · rw [if_pos (.inr (.inl (by assumption)))] at hgo
              rw [hgo]
              exact Qfn.ret3 rfl rfl rfl rfl ⟨_, rfl, ⟨_, rfl⟩, n7⟩
            · refine Wl.load1 rfl (b7.cell (o := 0) rfl) ?_
              (repeat' (first | refine Wl.moveE (by conv => { lhs; whnf }) ?_ | refine Wl.assignE (by conv => { lhs; whnf }) ?_ | refine Wl.nil ?_ | refine Wl.guardY rfl rfl ?_ | refine Wl.pickFE rfl (by conv => { lhs; whnf }) ?_ | refine Qseq.normal ?_ | refine Wc.seq ?_ | refine Wc.region ?_ | refine Wc.skip ?_ | refine Wc.ret ?_ | refine Qseq.ret ?_ | refine Qblk.ret ?_ | refine Qloop.ret ?_ | refine Wc.condT rfl ?_ | refine Wc.condF rfl ?_ | refine Wl.fieldAddr rfl rfl ?_ | refine Wl.geq rfl rfl (fun _ => ?_) (fun _ => ?_)))
              · rw [if_pos (.inr (.inr (by assumption)))] at hgo
                rw [hgo]
                exact Qfn.ret3 rfl rfl rfl rfl ⟨_, rfl, ⟨_, rfl⟩, n7⟩
              · rw [if_neg (by rw [hnm]; simp; omega)] at hgo
                obtain ⟨d, hdx⟩ := get_lt dp (k := x.parent.toNat) (by omega)
                have hdr := hd d (List.mem_of_getElem? hdx)
                rw [List.getD_eq_getElem?_getD, hdx, Option.getD_some] at hgo
                refine Wl.load1 rfl (b7.cell (o := 0) rfl) ?_
                refine Wl.idxAddrV (od7.rd (mono_one _)) rfl rfl (by omega) hdx fun b' o' hc => ?_
                refine Wl.load1 rfl hc ?_
                (repeat' (first | refine Wl.assignE (by conv => { lhs; whnf }) ?_ | refine Wl.nil ?_ | refine Qseq.normal ?_ | refine Wc.seq ?_ | refine Wc.region ?_ | refine Wl.fieldAddr rfl rfl ?_))
                refine Wl.load1 rfl (b7.cell (o := 0) rfl) ?_
                (repeat' (refine Wl.fieldAddr rfl rfl ?_))
                refine Wl.load1 rfl (b7.cell (o := 1) rfl) ?_
                refine Wl.buildF (ps := [(0, .tmp 69), (1, .tmp 71)]) (parts := [(0, vi x.parent), (1, vs x.name)]) rfl rfl (by simp [Value.cells]) ?_
                refine Wl.alloc fun w8 b8 n8 s8 => ?_
                refine Wl.storeB (new := [vi x.parent, vs x.name]) b8 rfl rfl rfl rfl (show (2 : Nat) ≤ 2 from Nat.le_refl 2) (by simp; exact ⟨rfl, rfl⟩) fun w9 b9 c9 s9 => ?_
                replace b9 : Bk w9 w7.heap.size 129 [vi x.parent, vs x.name] := b9
                have s7 := n7.size
                have m9 := (m7.keep n8.keep (Pb := fun _ => True) trivial).chg c9 (by have := m7.lt; omega)
                have od9 := (od7.new (plain_one _) n8).chg (plain_one _) c9 (fun k hk e => by have := (od7.lt hk).2; omega)
                have op9 := (op7.new (plain_one _) n8).chg (plain_one _) c9 (fun k hk e => by have := (op7.lt hk).2; omega)
                have n9 : New w w9 := Chg.trans (New.trans n7 n8) c9 fun k hk e => by omega
                have b79 := (b7.keep n8.keep (Pb := fun _ => True) trivial).chg c9 (by have := b7.lt; omega)
                clear m7 od7 op7 b8 c9 n8 b7
                (repeat' (first | refine Wl.nil ?_ | refine Qseq.normal ?_ | refine Wc.seq ?_))
                obtain ⟨q, hq⟩ := keyKid x.parent x.name (by omega) (by omega) (nameOk_len hnm)
                refine Wc.regionN rfl (by kernel_rfl) ?_
                (repeat' (first | refine Wq.moveE (by conv => { lhs; whnf }) ?_ | refine Wq.nil ?_ | refine Wq.guardY rfl rfl ?_ | refine Wq.guardN rfl rfl ?_ | refine Wq.pickTE rfl (by conv => { lhs; whnf }) ?_ | refine Wq.lenS rfl ?_ | refine Wq.sub rfl rfl (by omega) (by omega) ?_ | refine Wq.gtr rfl rfl (fun _ => ?_) (fun _ => ?_)))
                · intro w10 n10
                  replace n10 := New.trans n9 n10
                  (repeat' (first | refine Wl.moveE (by conv => { lhs; whnf }) ?_ | refine Wl.assignE (by conv => { lhs; whnf }) ?_ | refine Wl.nil ?_ | refine Qseq.normal ?_ | refine Wc.seq ?_ | refine Wc.region ?_ | refine Wc.ret ?_ | refine Qseq.ret ?_ | refine Qblk.ret ?_ | refine Qloop.ret ?_ | refine Wc.condT rfl ?_))
                  rw [if_pos (.inl (by omega))] at hgo
                  rw [hgo]
                  exact Qfn.ret3 rfl rfl rfl rfl ⟨_, rfl, ⟨_, rfl⟩, n10⟩
                · obtain ⟨y, hy⟩ := get_lt pt (k := (d - 1).toNat) (by omega)
                  rw [List.getD_eq_getElem?_getD, hy, Option.getD_some] at hgo
                  (try refine Wq.guardY rfl rfl ?_)
                  refine Wq.idxAddrV (op9.rd (mono_one _)) (fun w' hw => hw.keep) rfl rfl (by omega) hy fun b2 o2 hc2 => ?_
                  (try refine Wq.guardY rfl rfl ?_)
                  refine Wq.load1 rfl hc2 ?_
                  (try refine Wq.guardY rfl rfl ?_)
                  refine Wq.fieldAddr rfl rfl ?_
                  (try refine Wq.guardY rfl rfl ?_)
                  refine Wq.load1 rfl (fun w' hw => (b79.chg hw id).cell (o := 0) rfl) ?_
                  (repeat' (first | refine Wq.moveE (by conv => { lhs; whnf }) ?_ | refine Wq.nil ?_ | refine Wq.guardY rfl rfl ?_ | refine Wq.guardN rfl rfl ?_ | refine Wq.pickTE rfl (by conv => { lhs; whnf }) ?_ | refine Wq.pickFE rfl (by conv => { lhs; whnf }) ?_ | refine Wq.add rfl rfl (by omega) (by omega) ?_ | refine Wq.gtr rfl rfl (fun _ => ?_) (fun _ => ?_) | refine Wq.neq rfl rfl (fun _ => ?_) (fun _ => ?_)))
                  · intro w10 n10
                    replace n10 := New.trans n9 n10
                    (repeat' (first | refine Wl.moveE (by conv => { lhs; whnf }) ?_ | refine Wl.assignE (by conv => { lhs; whnf }) ?_ | refine Wl.nil ?_ | refine Qseq.normal ?_ | refine Wc.seq ?_ | refine Wc.region ?_ | refine Wc.ret ?_ | refine Qseq.ret ?_ | refine Qblk.ret ?_ | refine Qloop.ret ?_ | refine Wc.condT rfl ?_))
                    rw [if_pos (.inr (.inl (by assumption)))] at hgo
                    rw [hgo]
                    exact Qfn.ret3 rfl rfl rfl rfl ⟨_, rfl, ⟨_, rfl⟩, n10⟩
                  · intro w10 n10
                    replace n10 := New.trans n9 n10
                    (repeat' (first | refine Wl.moveE (by conv => { lhs; whnf }) ?_ | refine Wl.assignE (by conv => { lhs; whnf }) ?_ | refine Wl.nil ?_ | refine Qseq.normal ?_ | refine Wc.seq ?_ | refine Wc.region ?_ | refine Wc.ret ?_ | refine Qseq.ret ?_ | refine Qblk.ret ?_ | refine Qloop.ret ?_ | refine Wc.condT rfl ?_))
                    rw [if_pos (.inr (.inr (.inl (by omega))))] at hgo
                    rw [hgo]
                    exact Qfn.ret3 rfl rfl rfl rfl ⟨_, rfl, ⟨_, rfl⟩, n10⟩
                  · (try refine Wq.guardY rfl rfl ?_)
                    refine Wq.loadAt (fun w' hw => (b9.chg hw id).at) rfl rfl ?_
                    (try refine Wq.guardY rfl rfl ?_)
                    refine Wq.lookup kidKeyed m9 (u0 := .bool true) (fun p hp => by obtain ⟨k, _, rfl⟩ := List.mem_map.1 hp; rfl) (fun w' hw => hw.block _ m9.lt id) hq rfl rfl (fun hin => ?_) (fun hnot => ?_)
                    · have hcon : sn.contains (x.parent, x.name) = true := by
                        obtain ⟨k, hk, e⟩ := List.mem_map.1 hin
                        simp only [Prod.mk.injEq, and_true] at e
                        rw [kidV_inj e] at hk
                        exact List.contains_iff_mem.2 hk
                      (repeat' (first | refine Wq.nil ?_ | refine Wq.pickFE rfl (by conv => { lhs; whnf }) ?_))
                      intro w10 n10
                      replace n10 := New.trans n9 n10
                      (repeat' (first | refine Wl.moveE (by conv => { lhs; whnf }) ?_ | refine Wl.assignE (by conv => { lhs; whnf }) ?_ | refine Wl.nil ?_ | refine Qseq.normal ?_ | refine Wc.seq ?_ | refine Wc.region ?_ | refine Wc.ret ?_ | refine Qseq.ret ?_ | refine Qblk.ret ?_ | refine Qloop.ret ?_ | refine Wc.condT rfl ?_))
                      rw [if_pos (.inr (.inr (.inr hcon)))] at hgo
                      rw [hgo]
                      exact Qfn.ret3 rfl rfl rfl rfl ⟨_, rfl, ⟨_, rfl⟩, n10⟩
                    · have hcon : sn.contains (x.parent, x.name) = false := by
                        rw [Bool.eq_false_iff]; intro hc
                        exact hnot (kidV (x.parent, x.name), .bool true) (List.mem_map.2 ⟨_, List.contains_iff_mem.1 hc, rfl⟩) rfl
                      have hy' : y = x.parent := by assumption
                      rw [if_neg (by rw [hcon, hy']; simp; omega)] at hgo
                      (repeat' (first | refine Wq.nil ?_ | refine Wq.pickFE rfl (by conv => { lhs; whnf }) ?_))
                      intro w10 n10
                      have m10 := m9.keep n10.keep (Pb := fun _ => True) trivial
                      have od10 := od9.new (plain_one _) n10
                      have op10 := op9.new (plain_one _) n10
                      have b10 := b9.keep n10.keep (Pb := fun _ => True) trivial
                      replace n10 := New.trans n9 n10
                      clear m9 od9 op9 b9 n9
                      (repeat' (first | refine Wl.moveE (by conv => { lhs; whnf }) ?_ | refine Qseq.normal ?_ | refine Wc.seq ?_ | refine Wc.region ?_ | refine Wc.skip ?_ | refine Wc.condF rfl ?_))
                      refine Wl.loadB b10 rfl rfl ?_
                      refine Wl.mapPut (u := .bool true) (key := kidV (x.parent, x.name)) kidKeyed m10 hq hnot rfl rfl rfl fun w11 m11 c11 s11 => ?_
                      have od11 := od10.chg (plain_one _) c11 (fun k hk e => (od10.lt hk).1.2 e)
                      have op11 := op10.chg (plain_one _) c11 (fun k hk e => (op10.lt hk).1.2 e)
                      have n11 : New w w11 := Chg.trans n10 c11 fun k hk e => by omega
                      have s9' := n11.size
                      clear m10 od10 op10 b10 n10
                      (repeat' (first | refine Wl.moveE (by conv => { lhs; whnf }) ?_ | refine Wl.nil ?_ | refine Qseq.normal ?_ | refine Wc.region ?_))
                      refine Wl.sliceOwn op11 rfl rfl (by omega) (by omega) fun vq oq ob => ?_
                      (repeat' (refine Wl.moveE (by conv => { lhs; whnf }) ?_))
                      refine Wl.append1 (y := (i : Int)) (good_one _ fun _ => rfl) oq rfl rfl rfl rfl rfl (by omega) (by omega) (by simp only [maxLen, List.length_take]; omega) (by simp only [List.length_take]; omega) rfl rfl fun vp' w12 p op12 c12 lie12 => ?_
                      have hsq : Sep vd vq := fun k hk hk' => hsep k hk (ob ▸ hk')
                      have od12 := od11.chg (plain_one _) c12 hsq
                      have m12 := m11.chg c12 (fun e => (oq.lt e).1.2 rfl)
                      have hm12 := m11.lt
                      have n12 : New w w12 := Chg.trans n11 c12 fun k hk e => by have := (oq.lt e).1.1; omega
                      have hsep12 : Sep vd vp' := sepGrown od11 hsq lie12
                      replace op12 := op12.mono (Pb' := fun b => w.heap.size ≤ b ∧ b ≠ bm) (mono_one _) (fun b hb h => by rcases h with h | h; exact h; exact ⟨by omega, by omega⟩) (fun _ _ h => h)
                      have s12 := c12.size
                      clear oq op11 od11 m11 c12
                      (repeat' (first | refine Wl.moveE (by conv => { lhs; whnf }) ?_ | refine Wl.add rfl rfl (by omega) (by omega) ?_))
                      refine Wl.append1 (y := d + 1) (good_one _ fun _ => rfl) od12 rfl rfl rfl rfl rfl (by omega) (by omega) (by simp only [maxLen]; omega) (by omega) rfl rfl fun vd' w13 p od13 c13 lie13 => ?_
                      have hm13 := m12.lt
                      (repeat' (first | refine Wl.moveE (by conv => { lhs; whnf }) ?_ | refine Wl.assignE (by conv => { lhs; whnf }) ?_ | refine Wl.nil ?_ | refine Qseq.normal ?_ | refine Wc.region ?_ | refine Qblk.normal ?_ | refine Wl.add rfl rfl (by omega) (by omega) ?_))
                      refine Qloop.normal (i + 1, vd', vp', dp ++ [d + 1], pt.take d.toNat ++ [(i : Int)], sn ++ [(x.parent, x.name)]) ⟨rfl, rfl, rfl, rfl, rfl, rfl, rfl, trivial⟩ ⟨by dsimp only; omega, by dsimp only; omega, hgo, by simp [hdl], ?_, by simp; omega,
                        od13.mono (mono_one _) (fun b hb h => by rcases h with h | h; exact h; exact ⟨by omega, by omega⟩) (fun _ _ h => h),
                        op12.chg (plain_one _) c13 hsep12.symm, (sepGrown op12 hsep12.symm lie13).symm, ?_, Chg.trans n12 c13 fun k hk e => by have := (od12.lt e).1.1; omega⟩ (by dsimp only; omega)
                      · intro z hz
                        rcases List.mem_append.1 hz with hz | hz
                        · exact hd z hz
                        · simp at hz; omega
                      · have := m12.chg c13 (fun e => (od12.lt e).1.2 rfl)
                        simpa [setV] using this
  all_goals
    have e : i = l.length := by omega
    subst e
    rw [List.drop_length] at hgo
    simp only [chkGo] at hgo
    obtain ⟨qd, cd, rfl, _, _⟩ := od3.form
    rw [hgo]
    refine Qfn.ret3 rfl rfl rfl rfl ⟨_, rfl, ⟨.slice qd dp.length cd, ?_⟩, n3⟩
    rw [Option.isSome_some, Bool.true_and]
    first | (rw [decide_eq_true (by omega)]; rfl) | (rw [decide_eq_false (by omega)]; rfl)
end Go.Proofs.YtjpebmgllfiloaaDoor
