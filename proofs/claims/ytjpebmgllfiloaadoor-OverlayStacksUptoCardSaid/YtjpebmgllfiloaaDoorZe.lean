/-
  Texts of this claim, one behind the other: Qe, Qf, Lit, Qj, Sm, Br, Qk, Ql, Gr, Qm, Qn, Qg, Qh, Qi.
-/
import Derived.Test.YtjpebmgllfiloaaDoorZd
import Derived.Laws.StructEq
namespace Go.Proofs.YtjpebmgllfiloaaDoor
open Go Wk
open Go.RowKit (Below)
attribute [local irreducible] Go.Calls

/-! Trees whose list of nodes is one's own; their props are only read. -/
structure TrR (lo : Nat) (w : World) (v : Value) (t : List Nd) (pvs : List Sl) : Prop where
  len : pvs.length = t.length
  arr : OwnS (flat ndV) tNd 3 (fun b => lo ≤ b) No w v (t.zip pvs)
  pr : ∀ (i : Nat) (x : List Pr) (pv : Sl), (t.map Nd.props)[i]? = some x → pvs[i]? = some pv → RdS rPr 2 (fun b => lo ≤ b ∧ v.ownBlock ≠ some b) w (slV pv) x
section
variable {lo : Nat} {lab : Lb} {w w' : World} {v : Value} {t : List Nd} {pvs : List Sl}
theorem TrOwn.toR (h : TrOwn lo lab w v t pvs) : TrR lo w v t pvs :=
  ⟨h.len, h.arr.reblk fun b _ e => (h.low b _ e).1, fun i x pv hx hp => by
    rw [List.getElem?_map] at hx
    obtain ⟨y, hy, rfl⟩ := Option.map_eq_some_iff.1 hx
    refine ((h.pr i y pv hy hp).rd (mono_flat pC)).mono (mono_flat pC) fun b _ e => ?_
    rcases e with e | e
    · exact ⟨(h.low b _ e).1, fun e2 => by have := (h.arr.lt e2).1; rw [e] at this; cases this⟩
    · exact e.elim⟩
theorem TrR.new (h : TrR lo w v t pvs) (c : New w w') : TrR lo w' v t pvs := ⟨h.len, h.arr.new (plain_flat ndV) c, fun i x pv hx hp => (h.pr i x pv hx hp).keep (stable_flat pC) c.keep⟩
theorem TrR.rd (h : TrR lo w v t pvs) : RdS rNd 3 (fun b => lo ≤ b) w v t := by
  have hr := h.arr.rd (mono_flat ndV)
  have hl : (t.zip pvs).length = t.length := by simp [h.len]
  rcases hr with ⟨rfl, e⟩ | ⟨a, cap, rfl, e, hc⟩ | ⟨b, off, cap, cur, e, fr, rfl, hb, hh, h1, h2, h3, h4⟩
  · refine .inl ⟨rfl, List.eq_nil_of_length_eq_zero ?_⟩
    rw [← hl, e]; rfl
  · have ht : t = [] := List.eq_nil_of_length_eq_zero (by rw [← hl, e]; rfl)
    exact .inr (.inl ⟨a, cap, rfl, ht, hc⟩)
  · rw [hl] at *
    refine .inr (.inr ⟨b, off, cap, cur, e, fr, rfl, ?_, hh, h1, h2, h3, fun i x hx => ?_⟩)
    · rcases hb with hb | hb
      · exact hb
      · exact hb.elim
    · have hi : i < t.length := (List.getElem?_eq_some_iff.1 hx).1
      obtain ⟨pv, hpv⟩ := get_lt pvs (k := i) (by rw [h.len]; exact hi)
      have hz : (t.zip pvs)[i]? = some (x, pv) := by simp [List.getElem?_zip_eq_some, hx, hpv]
      exact ⟨slV pv, h4 i (x, pv) hz, (h.pr i x.props pv (by rw [List.getElem?_map, hx]; rfl) hpv).mono (mono_flat pC) fun b _ e => e.1⟩
end
/-- A node's cell in such a list. -/
theorem TrR.zip {lo : Nat} {w : World} {v : Value} {t : List Nd} {pvs : List Sl} (h : TrR lo w v t pvs) {i : Nat} {x : Nd} (hx : t[i]? = some x) : ∃ pv, pvs[i]? = some pv ∧ (t.zip pvs)[i]? = some (x, pv) := by
  obtain ⟨pv, hpv⟩ := get_lt pvs (k := i) (by rw [h.len]; exact (List.getElem?_eq_some_iff.1 hx).1)
  exact ⟨pv, hpv, by rw [List.getElem?_zip_eq_some]; exact ⟨hx, hpv⟩⟩
theorem idx_setPr (ps : List Pr) (p : Pr) : (idx (fun y : Pr => decide (y.1 = p.1)) ps = -1 ∧ setPr ps p = ps ++ [p]) ∨ ∃ (j : Nat) (v0 : List UInt8), idx (fun y : Pr => decide (y.1 = p.1)) ps = (j : Nat) ∧ ps[j]? = some (p.1, v0) ∧ setPr ps p = ps.set j p := by
  unfold idx setPr
  cases h : ps.findIdx? (fun y => decide (y.1 = p.1)) with
  | none => exact .inl ⟨rfl, rfl⟩
  | some j =>
    rw [List.findIdx?_eq_some_iff_getElem] at h
    obtain ⟨h1, h2, _⟩ := h
    refine .inr ⟨j, ps[j].2, rfl, ?_, rfl⟩
    rw [List.getElem?_eq_getElem h1, ← of_decide_eq_true h2]
set_option maxRecDepth 4000 in
theorem set_spec {Pl Pm : Nat → Prop} {w : World} {lv mv : Value} {l more : List Pr} (hl : RdS rPr 2 Pl w lv l) (hm : RdS rPr 2 Pm w mv more) (hll : l.length ≤ 2000000) (hml : more.length ≤ 2000000) :
    Calls Tryd.prog 62 #[lv, mv] w (Ret fun r w' => OwnPr (fun b => w.heap.size ≤ b) w' r (more.foldl setPr l) ∧ New w w') := by
  obtain ⟨la, lc, rfl, hlc1, hlc2⟩ := hl.form
  obtain ⟨ma, mc, rfl, hmc1, hmc2⟩ := hm.form
  simp only [maxLen] at hlc2 hmc2
  refine calls_of_Wc Tryd.func62 rfl Tryd.ntmps62 rfl ?_
  (repeat' (first | refine Wl.assignE (by conv => { lhs; whnf }) ?_ | refine Wl.nil ?_ | refine Qseq.normal ?_ | refine Wc.seq ?_ | refine Wc.region ?_))
  refine Wl.buildSliceE fun w1 hg1 n1 => ?_
  (repeat' (refine Wl.moveE (by conv => { lhs; whnf }) ?_))
  refine Wl.appendZ (Pe := No) goodPr hg1 (hl.keep (stable_flat pC) n1.keep) (fun y cs hy => hy) rfl rfl (by omega) (by simp only [maxLen]; omega) (by omega) fun vo w2 o2 n2 => ?_
  have s1 := n1.size
  have n02 := New.trans n1 n2
  (repeat' (first | refine Wl.assignE (by conv => { lhs; whnf }) ?_ | refine Wl.nil ?_ | refine Qseq.normal ?_ | refine Wc.seq ?_ | refine Wc.region ?_ | refine Wc.block ?_))
  refine Wc.loop (σ := Nat × Value) (fun s => [(1, .slice ma more.length mc), (5, s.2), (6, vi s.1)]) (fun s w' => s.1 ≤ more.length ∧ OwnPr (fun b => w.heap.size ≤ b) w' s.2 ((more.take s.1).foldl setPr l) ∧ New w w') (fun s => more.length - s.1) (0, vo) ⟨rfl, rfl, rfl, trivial⟩
    ⟨Nat.zero_le _, o2.reblk fun b _ e => by rcases e with e | e <;> omega, n02⟩ ?_
  rintro ⟨i, vo⟩ G w3 ⟨hi, o3, n3⟩
  dsimp only at hi o3
  clear o2 n1 n2 hg1
  simp only [upds]
  generalize hps : (more.take i).foldl setPr l = ps at o3
  have hpsl := foldl_setPr_length (more.take i) l
  rw [hps, List.length_take] at hpsl
  have s3 := n3.size
  (repeat' (first | refine Wl.moveE (by conv => { lhs; whnf }) ?_ | refine Wl.assignE (by conv => { lhs; whnf }) ?_ | refine Wl.nil ?_ | refine Wl.lenS rfl ?_ | refine Qseq.normal ?_ | refine Wc.seq ?_ | refine Wc.region ?_ | refine Wc.block ?_ | refine Wc.skip ?_ | refine Wc.exit ?_ | refine Wc.ret ?_ | refine Qseq.exit ?_ | refine Qblk.hit ?_ | refine Qloop.exit ?_ | refine Wc.condT rfl ?_ | refine Wc.condF rfl ?_ | refine Wl.lss rfl rfl (fun _ => ?_) (fun _ => ?_)))
  · obtain ⟨p, hp⟩ := get_lt more (k := i) (by omega)
    have hstep : (more.take (i + 1)).foldl setPr l = setPr ps p := by rw [take_snoc hp, List.foldl_append, hps]; rfl
    have hm3 := hm.keep (stable_flat pC) n3.keep
    refine Wl.idxAddr hm3 rfl rfl (by omega) hp fun b o cs hl hR hat => ?_
    obtain rfl : cs = pC p := hR
    (repeat' (refine Wl.fieldAddr rfl rfl ?_))
    refine Wl.load1 rfl (hat.get 0 rfl) ?_
    refine Wl.call (prop_spec (nm := p.1) (o3.rd (mono_flat pC))) rfl ?_
    rintro _ _ ⟨rfl, rfl⟩
    rcases idx_setPr ps p with ⟨e, hset⟩ | ⟨j, v0, e, hj, hset⟩
    · rw [e]
      (repeat' (first | refine Wl.moveE (by conv => { lhs; whnf }) ?_ | refine Wl.assignE (by conv => { lhs; whnf }) ?_ | refine Wl.nil ?_ | refine Qseq.normal ?_ | refine Wc.seq ?_ | refine Wc.region ?_ | refine Wc.condT rfl ?_ | (refine Wl.lss rfl rfl (fun _ => ?_) (fun _ => ?_) <;> (first | (exfalso; omega) | skip))))
      refine Wl.idxAddr hm3 rfl rfl (by omega) hp fun b o cs hl hR hat => ?_
      obtain rfl : cs = pC p := hR
      refine Wl.loadAt hat rfl rfl ?_
      refine Wl.append1 (R := rPr) (y := p) goodPr o3 rfl rfl rfl rfl rfl (by omega) (by omega) (by simp only [maxLen]; omega) (by omega) rfl rfl fun vo' w4 q o4 c4 lie => ?_
      (repeat' (first | refine Wl.moveE (by conv => { lhs; whnf }) ?_ | refine Wl.assignE (by conv => { lhs; whnf }) ?_ | refine Wl.nil ?_ | refine Qseq.normal ?_ | refine Wc.region ?_ | refine Qblk.normal ?_ | refine Wl.add rfl rfl (by omega) (by omega) ?_))
      refine Qloop.normal (i + 1, vo') ⟨rfl, rfl, rfl, trivial⟩ ⟨by dsimp only; omega, ?_, Chg.trans n3 c4 fun b hb e => by have := (o3.lt e).1; omega⟩ (by dsimp only; omega)
      dsimp only
      rw [hstep, hset]
      exact o4.reblk fun b _ e => by rcases e with e | e <;> omega
    · rw [e]
      have hjl := (List.getElem?_eq_some_iff.1 hj).1
      obtain ⟨g, gc, rfl, hgb, hgl, hob⟩ := o3.blk (by intro e; rw [e] at hjl; simp at hjl)
      (repeat' (first | refine Wl.moveE (by conv => { lhs; whnf }) ?_ | refine Wl.assignE (by conv => { lhs; whnf }) ?_ | refine Wl.nil ?_ | refine Qseq.normal ?_ | refine Wc.seq ?_ | refine Wc.region ?_ | refine Wc.condF rfl ?_ | (refine Wl.lss rfl rfl (fun _ => ?_) (fun _ => ?_) <;> (first | (exfalso; omega) | skip))))
      refine Wl.idxAddr hm3 rfl rfl (by omega) hp fun b o cs hl hR hat => ?_
      obtain rfl : cs = pC p := hR
      (repeat' (refine Wl.fieldAddr rfl rfl ?_))
      refine Wl.load1 rfl (hat.get 1 rfl) ?_
      refine Wl.idxP rfl rfl (by omega) (by omega) ?_
      (repeat' (refine Wl.fieldAddr rfl rfl ?_))
      refine Wl.storeOwnF (f := pC) (sz := 2) (o := 1) (j := j) (p := (p.1, v0)) (q := p) (u := vs p.2) (cap := gc) (fun _ => rfl) (by omega) rfl hj rfl o3 rfl (by show Value.pointer (some ⟨g, 0 + (j : Int).toNat * 2 + 1, none⟩) = _; simp) rfl fun w4 o4 c4 => ?_
      (repeat' (first | refine Wl.moveE (by conv => { lhs; whnf }) ?_ | refine Wl.assignE (by conv => { lhs; whnf }) ?_ | refine Wl.nil ?_ | refine Qseq.normal ?_ | refine Wc.region ?_ | refine Qblk.normal ?_ | refine Wl.add rfl rfl (by omega) (by omega) ?_))
      refine Qloop.normal (i + 1, .slice (some ⟨g, 0, none⟩) ps.length gc) ⟨rfl, rfl, rfl, trivial⟩ ⟨by dsimp only; omega, ?_, Chg.trans n3 c4 fun b hb e => by rw [hob] at e; cases e; omega⟩ (by dsimp only; omega)
      dsimp only
      rw [hstep, hset]
      exact o4
  · have e : i = more.length := by omega
    subst e
    rw [List.take_length] at hps
    rw [hps]
    exact Qfn.ret1 rfl (by obtain ⟨_, _, rfl, _⟩ := o3.form; rfl) ⟨_, rfl, o3, n3⟩
theorem dropGo_iff {ps : List Pr} : ∀ {D seen : List (List UInt8)}, dropGo ps seen D = true ↔ ∀ (i : Nat) (s : List UInt8), D[i]? = some s → nameOk s = true ∧ s ∉ seen ∧ ps.any (fun y => decide (y.1 = s)) = false ∧ ∀ (k : Nat) (r : List UInt8), k < i → D[k]? = some r → r ≠ s
  | [], seen => ⟨fun _ i s h => by simp at h, fun _ => rfl⟩
  | x :: D, seen => by
    rw [dropGo]
    simp only [Bool.and_eq_true, Bool.not_eq_true']
    rw [dropGo_iff (D := D)]
    constructor
    · rintro ⟨h1, h2, h3, h4⟩ i s hs
      cases i with
      | zero =>
        simp only [List.getElem?_cons_zero, Option.some.injEq] at hs
        subst hs
        exact ⟨h1, fun e => (by rw [List.contains_iff_mem.2 e] at h2; cases h2), h3, fun k r hk => (by omega)⟩
      | succ i =>
        rw [List.getElem?_cons_succ] at hs
        obtain ⟨g1, g2, g3, g4⟩ := h4 i s hs
        refine ⟨g1, fun e => g2 (by simp [e]), g3, fun k r hk hr => ?_⟩
        cases k with
        | zero =>
          simp only [List.getElem?_cons_zero, Option.some.injEq] at hr
          subst hr
          exact fun e => g2 (by simp [e])
        | succ k => exact g4 k r (by omega) (by simpa using hr)
    · intro h
      have h0 := h 0 x rfl
      refine ⟨h0.1, Bool.eq_false_iff.2 fun e => h0.2.1 (List.contains_iff_mem.1 e), h0.2.2.1, fun i s hs => ?_⟩
      have h1 := h (i + 1) s (by simpa using hs)
      refine ⟨h1.1, fun e => ?_, h1.2.2.1, fun k r hk hr => h1.2.2.2 (k + 1) r (by omega) (by simpa using hr)⟩
      rcases List.mem_append.1 e with e | e
      · exact h1.2.1 e
      · simp at e
        exact h1.2.2.2 0 x (by omega) rfl e.symm
theorem idx_any {α : Type} (p : α → Bool) (l : List α) : (idx p l < 0 ∧ l.any p = false) ∨ (0 ≤ idx p l ∧ l.any p = true) := by
  rcases idx_cases p l with ⟨e, h⟩ | ⟨i, y, e, hi, hp, _⟩
  · exact .inl ⟨by omega, List.any_eq_false.2 fun x hx => by rw [h x hx]; simp⟩
  · exact .inr ⟨by omega, List.any_eq_true.2 ⟨y, List.mem_of_getElem? hi, hp⟩⟩
theorem pieceOk_eq {p : Pc} {x0 : Nd} (hx0 : p.nodes[0]? = some x0) : pieceOk p = (treeOk p.nodes && (decide (p.drop.length ≤ 32) && dropGo x0.props [] p.drop)) := by
  unfold pieceOk
  cases hpn : p.nodes with
  | nil => rw [hpn] at hx0; cases hx0
  | cons y r => rw [hpn] at hx0; simp at hx0; subst hx0; rfl
set_option maxHeartbeats 1000000 in
set_option maxRecDepth 4000 in
theorem CheckPR_spec {Pb : Nat → Prop} {w : World} {nv dv : Value} {p : Pc} (hn : RdS rNd 3 Pb w nv p.nodes) (hd : RdS (one vs) 1 Pb w dv p.drop) :
    Calls Tryd.prog 14 #[.agg #[vs p.target, nv, dv]] w (Ret fun r w' => r = vi (pieceE p) ∧ New w w') := by
  obtain ⟨na, nc, rfl, _, _⟩ := hn.form
  obtain ⟨da, dc, rfl, hdc1, hdc2⟩ := hd.form
  simp only [maxLen] at hdc2
  refine calls_of_Wc Tryd.func14 rfl Tryd.ntmps14 rfl ?_
  unfold pieceE
  (repeat' (first | refine Wc.seq ?_ | refine Wc.region ?_))
  refine Wl.box rfl fun w1 b1 n1 s1 => ?_
  replace b1 : Bk w1 w.heap.size 25 [vs p.target, .slice na p.nodes.length nc, .slice da p.drop.length dc] := b1
  (repeat' (first | refine Wl.assignE (by conv => { lhs; whnf }) ?_ | refine Wl.nil ?_ | refine Qseq.normal ?_ | refine Wc.seq ?_ | refine Wc.region ?_ | refine Wl.fieldAddr rfl rfl ?_))
  refine Wl.load1 rfl (b1.cell (o := 1) rfl) ?_
  refine Wl.call (mayR_spec (hn.keep stableNd n1.keep)) rfl ?_
  rintro _ w2 ⟨rfl, n2⟩
  have b2 := b1.chg n2 id
  replace n2 := New.trans n1 n2
  cases hok : treeOk p.nodes with
  | false =>
    rw [show pieceOk p = false by unfold pieceOk; rw [hok]; rfl, if_neg (by simp)]
    (repeat' (first | refine Wl.moveE (by conv => { lhs; whnf }) ?_ | refine Wl.assignE (by conv => { lhs; whnf }) ?_ | refine Wl.nil ?_ | refine Wl.guardN rfl rfl ?_ | refine Wl.pickTE rfl (by conv => { lhs; whnf }) ?_ | refine Wl.notB rfl ?_ | refine Qseq.normal ?_ | refine Wc.seq ?_ | refine Wc.region ?_ | refine Wc.ret ?_ | refine Qseq.ret ?_ | refine Wc.condT rfl ?_))
    exact Qfn.ret1 rfl rfl ⟨_, rfl, rfl, n2⟩
  | true =>
    obtain ⟨x0, hx0⟩ := get_lt p.nodes (k := 0) (treeOk_pos hok)
    rw [pieceOk_eq hx0, hok, Bool.true_and]
    (repeat' (first | refine Wl.moveE (by conv => { lhs; whnf }) ?_ | refine Wl.guardY rfl rfl ?_ | refine Wl.notB rfl ?_ | refine Wl.fieldAddr rfl rfl ?_))
    refine Wl.load1 rfl (b2.cell (o := 2) rfl) ?_
    (repeat' (first | refine Wl.assignE (by conv => { lhs; whnf }) ?_ | refine Wl.nil ?_ | refine Wl.guardY rfl rfl ?_ | refine Wl.pickFE rfl (by conv => { lhs; whnf }) ?_ | refine Wl.lenS rfl ?_ | refine Qseq.normal ?_ | refine Wc.seq ?_ | refine Wc.region ?_ | refine Wc.block ?_ | refine Wc.skip ?_ | refine Wc.ret ?_ | refine Qseq.ret ?_ | refine Wc.condT rfl ?_ | refine Wc.condF rfl ?_ | refine Wl.gtr rfl rfl (fun _ => ?_) (fun _ => ?_)))
    · rw [decide_eq_false (by omega), Bool.false_and, if_neg (by simp)]
      exact Qfn.ret1 rfl rfl ⟨_, rfl, rfl, n2⟩
    · rw [decide_eq_true (by omega), Bool.true_and]
      have bad : ∀ {i : Nat} {s : List UInt8}, p.drop[i]? = some s → ¬ (nameOk s = true ∧ x0.props.any (fun y => decide (y.1 = s)) = false ∧ ∀ (k : Nat) (r : List UInt8), k < i → p.drop[k]? = some r → r ≠ s) → dropGo x0.props [] p.drop = false := fun hs hno =>
        Bool.eq_false_iff.2 fun e => hno (by have := dropGo_iff.1 e _ _ hs; exact ⟨this.1, this.2.2⟩)
      refine Wc.loop (σ := Nat) (fun i => [(1, ptrV w.heap.size), (3, vi i)]) (fun i w' => i ≤ p.drop.length ∧ (∀ (j : Nat) (s : List UInt8), j < i → p.drop[j]? = some s → nameOk s = true ∧ x0.props.any (fun y => decide (y.1 = s)) = false ∧ ∀ (k : Nat) (r : List UInt8), k < j → p.drop[k]? = some r → r ≠ s) ∧
        Bk w' w.heap.size 25 [vs p.target, .slice na p.nodes.length nc, .slice da p.drop.length dc] ∧ New w w') (fun i => p.drop.length - i) 0 ⟨rfl, rfl, trivial⟩ ⟨Nat.zero_le _, fun j s hj => by omega, b2, n2⟩ ?_
      rintro i G w3 ⟨hi, hall, b3, n3⟩
      have hd3 := hd.keep (stable_one _) n3.keep
      simp only [upds]
      (repeat' (first | refine Wl.moveE (by conv => { lhs; whnf }) ?_ | refine Wc.seq ?_ | refine Wc.region ?_ | refine Wl.fieldAddr rfl rfl ?_))
      refine Wl.load1 rfl (b3.cell (o := 2) rfl) ?_
      (repeat' (first | refine Wl.assignE (by conv => { lhs; whnf }) ?_ | refine Wl.nil ?_ | refine Wl.lenS rfl ?_ | refine Qseq.normal ?_ | refine Wc.seq ?_ | refine Wc.region ?_ | refine Wc.block ?_ | refine Wc.skip ?_ | refine Wc.exit ?_ | refine Wc.ret ?_ | refine Qseq.exit ?_ | refine Qblk.hit ?_ | refine Qloop.exit ?_ | refine Wc.condT rfl ?_ | refine Wc.condF rfl ?_ | refine Wl.lss rfl rfl (fun _ => ?_) (fun _ => ?_)))
      · obtain ⟨s, hs⟩ := get_lt p.drop (k := i) (by omega)
        refine Wc.regionT rfl (by kernel_rfl) (New w3) (Chg.drew _ _) ?_
        intro w4 n4
        (repeat' (refine Wt.quiet rfl (Wq.fieldAddr rfl rfl (Wq.nil ?_))))
        refine Wt.quiet rfl (Wq.load1 rfl (fun w' hw => (b3.chg hw id).cell (o := 2) rfl) (Wq.nil ?_))
        (repeat' (refine Wt.quiet rfl (Wq.moveE (by conv => { lhs; whnf }) (Wq.nil ?_))))
        refine Wt.quiet rfl (Wq.idxAddrV hd3 (fun w' hw => hw.keep) rfl rfl (by omega) hs fun b o hc => Wq.nil ?_)
        refine Wt.quiet rfl (Wq.load1 rfl hc (Wq.nil ?_))
        refine Wt.chain rfl (Wl.call (NameR_spec (s := s)) rfl ?_)
        rintro _ _ ⟨rfl, rfl⟩
        refine Wl.nil ⟨rfl, n4, ?_⟩
        cases hnm : nameOk s with
        | false =>
          (repeat' (first | refine Wt.nil ?_ | refine Wt.guardN rfl rfl (by assumption) ?_ | refine Wt.quiet rfl (Wq.moveE (by conv => { lhs; whnf }) (Wq.nil ?_)) | refine Wt.quiet rfl (Wq.pickTE rfl (by conv => { lhs; whnf }) (Wq.nil ?_)) | refine Wt.quiet rfl (Wq.notB rfl (Wq.nil ?_))))
          (repeat' (first | refine Wl.assignE (by conv => { lhs; whnf }) ?_ | refine Wl.nil ?_ | refine Qseq.normal ?_ | refine Wc.seq ?_ | refine Wc.region ?_ | refine Wc.ret ?_ | refine Qseq.ret ?_ | refine Qblk.ret ?_ | refine Qloop.ret ?_ | refine Wc.condT rfl ?_))
          rw [bad hs (by rw [hnm]; simp), if_neg (by simp)]
          exact Qfn.ret1 rfl rfl ⟨_, rfl, rfl, New.trans n3 n4⟩
        | true =>
          (repeat' (first | refine Wt.guardY rfl rfl ?_ | refine Wt.quiet rfl (Wq.moveE (by conv => { lhs; whnf }) (Wq.nil ?_)) | refine Wt.quiet rfl (Wq.notB rfl (Wq.nil ?_)) | refine Wt.quiet rfl (Wq.fieldAddr rfl rfl (Wq.nil ?_))))
          refine Wt.quiet rfl (Wq.load1 rfl (fun w' hw => (b3.chg hw id).cell (o := 1) rfl) (Wq.nil ?_))
          (repeat' (refine Wt.guardY rfl rfl ?_))
          refine Wt.quiet rfl (Wq.idxAddr (hn.keep stableNd n3.keep) (fun w' hw => hw.keep) rfl rfl (by omega) hx0 fun b2 o2 cs hl hR hat => Wq.nil ?_)
          obtain ⟨pv, rfl, hpr⟩ := hR
          (repeat' (first | refine Wt.guardY rfl rfl ?_ | refine Wt.quiet rfl (Wq.fieldAddr rfl rfl (Wq.nil ?_))))
          refine Wt.quiet rfl (Wq.load1 rfl (fun w' hw => (hat w' hw).get 2 rfl) (Wq.nil ?_))
          (repeat' (first | refine Wt.guardY rfl rfl ?_ | refine Wt.quiet rfl (Wq.fieldAddr rfl rfl (Wq.nil ?_))))
          refine Wt.quiet rfl (Wq.load1 rfl (fun w' hw => (b3.chg hw id).cell (o := 2) rfl) (Wq.nil ?_))
          (repeat' (first | refine Wt.guardY rfl rfl ?_ | refine Wt.quiet rfl (Wq.moveE (by conv => { lhs; whnf }) (Wq.nil ?_))))
          refine Wt.quiet rfl (Wq.idxAddrV hd3 (fun w' hw => hw.keep) rfl rfl (by omega) hs fun b o hc => Wq.nil ?_)
          (repeat' (refine Wt.guardY rfl rfl ?_))
          refine Wt.quiet rfl (Wq.load1 rfl hc (Wq.nil ?_))
          (repeat' (refine Wt.guardY rfl rfl ?_))
          refine Wt.chain rfl (Wl.call (prop_spec (nm := s) (hpr.keep (stable_flat pC) n4.keep)) rfl ?_)
          rintro _ _ ⟨rfl, rfl⟩
          refine Wl.nil ⟨rfl, n4, ?_⟩
          rcases idx_any (fun y : Pr => decide (y.1 = s)) x0.props with ⟨hneg, hany⟩ | ⟨hpos, hany⟩
          · generalize idx (fun y : Pr => decide (y.1 = s)) x0.props = z at hneg
            (repeat' (first | refine Wt.nil ?_ | refine Wt.guardY rfl rfl ?_ | refine Wt.quiet rfl (Wq.pickFE rfl (by conv => { lhs; whnf }) (Wq.nil ?_)) | (refine Wt.quiet rfl (Wq.geq rfl rfl (fun _ => Wq.nil ?_) (fun _ => Wq.nil ?_)) <;> (first | (exfalso; omega) | skip))))
            (repeat' (first | refine Wl.assignE (by conv => { lhs; whnf }) ?_ | refine Wl.nil ?_ | refine Qseq.normal ?_ | refine Wc.seq ?_ | refine Wc.region ?_ | refine Wc.block ?_ | refine Wc.skip ?_ | refine Wc.condF rfl ?_))
            have n34 := New.trans n3 n4
            refine Wc.loop (σ := Nat) (fun k => [(1, ptrV w.heap.size), (3, vi i), (4, vi k)]) (fun k w' => k ≤ i ∧ (∀ (k' : Nat) (r : List UInt8), k' < k → p.drop[k']? = some r → r ≠ s) ∧
              Bk w' w.heap.size 25 [vs p.target, .slice na p.nodes.length nc, .slice da p.drop.length dc] ∧ New w w') (fun k => i - k) 0 ⟨rfl, rfl, rfl, trivial⟩ ⟨Nat.zero_le _, fun j s hj => by omega, b3.chg n4 id, n34⟩ ?_
            rintro k G w5 ⟨hk, hno, b5, n5⟩
            have hd5 := hd.keep (stable_one _) n5.keep
            simp only [upds]
            (repeat' (first | refine Wl.moveE (by conv => { lhs; whnf }) ?_ | refine Wl.assignE (by conv => { lhs; whnf }) ?_ | refine Wl.nil ?_ | refine Qseq.normal ?_ | refine Wc.seq ?_ | refine Wc.region ?_ | refine Wc.block ?_ | refine Wc.skip ?_ | refine Wc.exit ?_ | refine Qseq.exit ?_ | refine Qblk.normal ?_ | refine Qblk.hit ?_ | refine Qloop.exit ?_ | refine Wc.condT rfl ?_ | refine Wc.condF rfl ?_ | refine Wl.add rfl rfl (by omega) (by omega) ?_ | refine Wl.lss rfl rfl (fun _ => ?_) (fun _ => ?_)))
            · obtain ⟨r, hr⟩ := get_lt p.drop (k := k) (by omega)
              refine Wc.regionN rfl (by kernel_rfl) ?_
              (repeat' (refine Wq.fieldAddr rfl rfl ?_))
              refine Wq.load1 rfl (fun w' hw => (b5.chg hw id).cell (o := 2) rfl) ?_
              (repeat' (refine Wq.moveE (by conv => { lhs; whnf }) ?_))
              refine Wq.idxAddrV hd5 (fun w' hw => New.keep hw) rfl rfl (by omega) hr fun b o hc => ?_
              refine Wq.load1 rfl hc ?_
              (repeat' (refine Wq.fieldAddr rfl rfl ?_))
              refine Wq.load1 rfl (fun w' hw => (b5.chg hw id).cell (o := 2) rfl) ?_
              (repeat' (refine Wq.moveE (by conv => { lhs; whnf }) ?_))
              refine Wq.idxAddrV hd5 (fun w' hw => New.keep hw) rfl rfl (by omega) hs fun b o hc => ?_
              refine Wq.load1 rfl hc ?_
              (repeat' (first | refine Wq.nil ?_ | refine Wq.seql rfl rfl (fun _ => ?_) (fun _ => ?_)))
              · intro w6 n6
                (repeat' (first | refine Wl.assignE (by conv => { lhs; whnf }) ?_ | refine Wl.nil ?_ | refine Qseq.normal ?_ | refine Wc.seq ?_ | refine Wc.region ?_ | refine Wc.ret ?_ | refine Qseq.ret ?_ | refine Qblk.ret ?_ | refine Qloop.ret ?_ | refine Wc.condT rfl ?_))
                rw [bad hs fun e => e.2.2 k r (by omega) hr (by assumption), if_neg (by simp)]
                exact Qfn.ret1 rfl rfl ⟨_, rfl, rfl, New.trans n5 n6⟩
              · intro w6 n6
                (repeat' (first | refine Wl.moveE (by conv => { lhs; whnf }) ?_ | refine Wl.assignE (by conv => { lhs; whnf }) ?_ | refine Wl.nil ?_ | refine Qseq.normal ?_ | refine Wc.region ?_ | refine Wc.skip ?_ | refine Qblk.normal ?_ | refine Wc.condF rfl ?_ | refine Wl.add rfl rfl (by omega) (by omega) ?_))
                refine Qloop.normal (k + 1) ⟨rfl, rfl, rfl, trivial⟩ ⟨by omega, fun k' r' hk' hr' => ?_, b5.chg n6 id, New.trans n5 n6⟩ (by omega)
                rcases Nat.lt_or_ge k' k with h | h
                · exact hno k' r' h hr'
                · obtain rfl : k' = k := by omega
                  rw [hr] at hr'
                  cases hr'
                  assumption
            · refine Qloop.normal (i + 1) ⟨rfl, rfl, trivial⟩ ⟨by omega, fun j s' hj hs' => ?_, b5, n5⟩ (by omega)
              rcases Nat.lt_or_ge j i with h | h
              · exact hall j s' h hs'
              · obtain rfl : j = i := by omega
                rw [hs] at hs'
                cases hs'
                exact ⟨hnm, hany, fun k' r' hk' hr' => hno k' r' (by omega) hr'⟩
          · generalize idx (fun y : Pr => decide (y.1 = s)) x0.props = z at hpos
            (repeat' (first | refine Wt.nil ?_ | refine Wt.guardY rfl rfl ?_ | refine Wt.quiet rfl (Wq.pickFE rfl (by conv => { lhs; whnf }) (Wq.nil ?_)) | (refine Wt.quiet rfl (Wq.geq rfl rfl (fun _ => Wq.nil ?_) (fun _ => Wq.nil ?_)) <;> (first | (exfalso; omega) | skip))))
            (repeat' (first | refine Wl.assignE (by conv => { lhs; whnf }) ?_ | refine Wl.nil ?_ | refine Qseq.normal ?_ | refine Wc.seq ?_ | refine Wc.region ?_ | refine Wc.ret ?_ | refine Qseq.ret ?_ | refine Qblk.ret ?_ | refine Qloop.ret ?_ | refine Wc.condT rfl ?_))
            rw [bad hs (by rw [hany]; simp), if_neg (by simp)]
            exact Qfn.ret1 rfl rfl ⟨_, rfl, rfl, New.trans n3 n4⟩
      · have e : i = p.drop.length := by omega
        subst e
        rw [dropGo_iff.2 fun i s hs => by
          have := hall i s (List.getElem?_eq_some_iff.1 hs).1 hs
          exact ⟨this.1, by simp, this.2⟩, if_pos rfl]
        exact Qfn.ret1 rfl rfl ⟨_, rfl, rfl, n3⟩
end Go.Proofs.YtjpebmgllfiloaaDoor

namespace Go.Proofs.YtjpebmgllfiloaaDoor
open Go Wk
open Go.RowKit (Below)
attribute [local irreducible] Go.Calls

theorem zip_set2 {α β : Type} : ∀ (l : List α) (m : List β) (i : Nat) (x : α) (y : β), (l.zip m).set i (x, y) = (l.set i x).zip (m.set i y)
  | [], m, i, x, y => by simp
  | a :: l, [], i, x, y => by cases i <;> simp
  | a :: l, b :: m, 0, x, y => rfl
  | a :: l, b :: m, i + 1, x, y => by
    simp only [List.zip_cons_cons, List.set_cons_succ]
    rw [zip_set2 l m i x y]
theorem TrR.setAt {lo i : Nat} {w1 w2 : World} {v : Value} {t : List Nd} {pvs : List Sl} {x' : Nd} {q : Sl} (h : TrR lo w1 v t pvs) (hi : i < t.length) (hq : RdS rPr 2 (fun b => lo ≤ b ∧ v.ownBlock ≠ some b) w1 (slV q) x'.props)
    (ha : OwnS (flat ndV) tNd 3 (fun b => lo ≤ b) No w2 v ((t.zip pvs).set i (x', q))) (c : Chg (fun b => v.ownBlock = some b) w1 w2) : TrR lo w2 v (t.set i x') (pvs.set i q) := by
  have hk : Keep (fun b => lo ≤ b ∧ v.ownBlock ≠ some b) w1 w2 := c.keep fun b _ hb => hb.2
  refine ⟨by simp [h.len], by rw [← zip_set2]; exact ha, fun j y pv hy hp => ?_⟩
  rw [List.map_set, List.getElem?_set] at hy
  rw [List.getElem?_set] at hp
  by_cases e : i = j
  · subst e
    rw [if_pos rfl, if_pos (by simpa using hi)] at hy
    rw [if_pos rfl, if_pos (by rw [h.len]; exact hi)] at hp
    cases hy
    cases hp
    exact hq.keep (stable_flat pC) hk
  · rw [if_neg e] at hy hp
    exact (h.pr j y pv hy hp).keep (stable_flat pC) hk
theorem TrR.low {lo lo' : Nat} {w : World} {v : Value} {t : List Nd} {pvs : List Sl} (h : TrR lo w v t pvs) (hl : lo' ≤ lo) : TrR lo' w v t pvs :=
  ⟨h.len, h.arr.reblk fun b _ e => Nat.le_trans hl e, fun i x pv hx hp => (h.pr i x pv hx hp).mono (mono_flat pC) fun b _ e => ⟨Nat.le_trans hl e.1, e.2⟩⟩
/-! The list behind it. -/
def shP (at_ : Nat) (x : Nd) : Nd := if (at_ : Int) ≤ x.parent then { x with parent := x.parent + 1 } else x
theorem shP_props (at_ : Nat) (x : Nd) : (shP at_ x).props = x.props := by unfold shP; split <;> rfl
def putL (t : List Nd) (pa : Nat) (nm : List UInt8) : List Nd := t.take (pa + belowL t pa) ++ ⟨pa, nm, []⟩ :: (t.drop (pa + belowL t pa)).map (shP (pa + belowL t pa))
theorem putL_length (t : List Nd) (pa : Nat) (nm : List UInt8) : (putL t pa nm).length = t.length + 1 := by
  unfold putL; simp; omega
theorem belowL_le {t : List Nd} {pa : Nat} (h : pa < t.length) : 1 ≤ belowL t pa ∧ pa + belowL t pa ≤ t.length := by
  unfold belowL
  have := (List.takeWhile_prefix (l := t.drop (pa + 1)) (fun x : Nd => decide ((pa : Int) ≤ x.parent))).length_le
  rw [List.length_drop] at this
  omega
theorem sh_step {α : Type} {f : α → α} {P0 R : List α} {j : Nat} {x : α} (h : R[j]? = some x) : (P0 ++ ((R.take j).map f ++ R.drop j)).set (P0.length + j) (f x) = P0 ++ ((R.take (j + 1)).map f ++ R.drop (j + 1)) := by
  have hj := (List.getElem?_eq_some_iff.1 h).1
  have e1 : ((R.take j).map f).length = j := by simp; omega
  rw [List.set_append_right _ _ (by omega), Nat.add_sub_cancel_left, List.set_append_right _ _ (by omega), e1, Nat.sub_self, drop_cons h, take_snoc h]
  simp
theorem sh_get {α : Type} {f : α → α} {P0 R : List α} {j : Nat} {x : α} (h : R[j]? = some x) : (P0 ++ ((R.take j).map f ++ R.drop j))[P0.length + j]? = some x := by
  have hj := (List.getElem?_eq_some_iff.1 h).1
  have e1 : ((R.take j).map f).length = j := by simp; omega
  rw [List.getElem?_append_right (by omega), Nat.add_sub_cancel_left, List.getElem?_append_right (by omega), e1, Nat.sub_self, drop_cons h]; rfl
theorem list_set_self {α : Type} {l : List α} {i : Nat} {x : α} (h : l[i]? = some x) : l.set i x = l := by
  obtain ⟨h1, h2⟩ := List.getElem?_eq_some_iff.1 h
  rw [← h2]; exact List.set_getElem_self h1
set_option maxHeartbeats 1000000 in
set_option maxRecDepth 4000 in
theorem put_spec {lo pa : Nat} {w : World} {v : Value} {t : List Nd} {pvs : List Sl} {nm : List UInt8} (h : TrR lo w v t pvs) (hlo : lo ≤ w.heap.size) (ha : pa < t.length) (hl : t.length ≤ 100000) (hpar : ∀ x ∈ t, x.parent < 1000000) :
    Calls Tryd.prog 64 #[v, vi pa, vs nm] w (Ret fun r w' => ∃ v' pvs', r = .tuple #[v', vi (pa + belowL t pa : Nat)] ∧ TrR lo w' v' (putL t pa nm) pvs' ∧ New w w') := by
  obtain ⟨a, cap, rfl, hc1, hc2⟩ := h.rd.form
  simp only [maxLen] at hc2
  have hb := belowL_le ha
  have hpl := h.len
  unfold putL
  generalize hbe : belowL t pa = be at hb ⊢
  refine calls_of_Wc Tryd.func64 rfl Tryd.ntmps64 rfl ?_
  (repeat' (first | refine Wl.moveE (by conv => { lhs; whnf }) ?_ | refine Wl.assignE (by conv => { lhs; whnf }) ?_ | refine Wl.nil ?_ | refine Qseq.normal ?_ | refine Wc.seq ?_ | refine Wc.region ?_))
  refine Wl.call (below_spec h.rd ha (by omega)) rfl ?_
  rintro _ _ ⟨rfl, rfl⟩
  rw [hbe]
  (repeat' (first | refine Wl.moveE (by conv => { lhs; whnf }) ?_ | refine Wl.assignE (by conv => { lhs; whnf }) ?_ | refine Wl.nil ?_ | refine Qseq.normal ?_ | refine Wc.seq ?_ | refine Wc.region ?_ | refine Wl.add rfl rfl (by omega) (by omega) ?_))
  have hzl : (t.zip pvs).length = t.length := by simp [hpl]
  have hrz : RdS (flat ndV) 3 (fun b => lo ≤ b ∨ No b) w (.slice a t.length cap) (t.zip pvs) := h.arr.rd (mono_flat ndV)
  refine Wl.sliceTo hrz rfl rfl (by omega) (by rw [hzl]; omega) fun v1 hr1 => ?_
  rw [show ((pa : Int) + (be : Int)).toNat = pa + be by omega] at hr1
  refine Wl.appendAll (R := flat ndV) (Pb := fun b => w.heap.size ≤ b) (Pe := No) goodNdV OwnS.nil hr1 (fun _ _ h => h) rfl rfl (by omega) (by simp only [maxLen, List.length_take, List.length_nil]; omega) (by simp only [List.length_take, List.length_nil]; omega) fun o1 w1 ow1 c1 lie1 _ => ?_
  rw [List.nil_append] at ow1
  have n1 : New w w1 := c1.mono fun b hb e => by cases e
  replace ow1 := ow1.reblk (Pb' := fun b => w.heap.size ≤ b) fun b _ e => by rcases e with e | e <;> exact e
  have s1 := n1.size
  (repeat' (first | refine Wl.moveE (by conv => { lhs; whnf }) ?_ | refine Wl.assignE (by conv => { lhs; whnf }) ?_ | refine Wl.nil ?_ | refine Qseq.normal ?_ | refine Wc.seq ?_ | refine Wc.region ?_))
  refine Wl.buildF (ps := [(0, .tmp 22), (1, .tmp 23)]) (parts := [(0, vi pa), (1, vs nm)]) rfl rfl (by simp [Value.cells]) ?_
  refine Wl.append1 (R := flat ndV) (y := ((⟨pa, nm, []⟩ : Nd), ((none, 0, 0) : Sl))) goodNdV ow1 rfl rfl rfl rfl rfl (by omega) (by omega) (by simp only [maxLen, List.length_take]; omega) (by simp only [List.length_take]; omega) rfl rfl fun o2 w2 p2 ow2 c2 lie2 => ?_
  have n2 : New w w2 := Chg.trans n1 c2 fun b hb e => by have := (ow1.lt e).1; omega
  replace ow2 := ow2.reblk (Pb' := fun b => w.heap.size ≤ b) fun b _ e => by rcases e with e | e <;> omega
  have s2 := n2.size
  (repeat' (first | refine Wl.moveE (by conv => { lhs; whnf }) ?_ | refine Wl.assignE (by conv => { lhs; whnf }) ?_ | refine Wl.nil ?_ | refine Qseq.normal ?_ | refine Wc.seq ?_ | refine Wc.region ?_))
  refine Wl.sliceFrom (hrz.keep (stable_flat ndV) n2.keep) rfl rfl (by omega) (by rw [hzl]; omega) fun v3 hr3 => ?_
  rw [show ((pa : Int) + (be : Int)).toNat = pa + be by omega] at hr3
  refine Wl.appendAll (R := flat ndV) (Pe := No) goodNdV ow2 hr3 (fun _ _ h => h) rfl rfl (by omega) (by simp only [maxLen, List.length_append, List.length_take, List.length_drop, List.length_singleton]; omega) (by simp only [List.length_append, List.length_take, List.length_drop, List.length_singleton]; omega) fun o3 w3 ow3 c3 lie3 _ => ?_
  have n3 : New w w3 := Chg.trans n2 c3 fun b hb e => by have := (ow2.lt e).1; omega
  replace ow3 := ow3.reblk (Pb' := fun b => w.heap.size ≤ b) fun b _ e => by rcases e with e | e <;> omega
  have s3 := n3.size
  clear ow1 ow2 hr1 hr3 c1 c2 c3 lie1 lie2 lie3 hrz
  have hz : (t.zip pvs).take (pa + be) ++ [((⟨pa, nm, []⟩ : Nd), ((none, 0, 0) : Sl))] ++ (t.zip pvs).drop (pa + be) = (t.take (pa + be) ++ [(⟨pa, nm, []⟩ : Nd)] ++ t.drop (pa + be)).zip (pvs.take (pa + be) ++ [((none, 0, 0) : Sl)] ++ pvs.drop (pa + be)) := by
    rw [List.zip_append (by simp [hpl]), List.zip_append (by simp [hpl])]
    simp only [List.zip, List.take_zipWith, List.drop_zipWith]; rfl
  rw [hz] at ow3
  clear hz
  have hz3 : t.drop (pa + be) = ((t.drop (pa + be)).take 0).map (shP (pa + be)) ++ (t.drop (pa + be)).drop 0 := by simp
  have tr3 : TrR lo w3 o3 (t.take (pa + be) ++ [(⟨pa, nm, []⟩ : Nd)] ++ t.drop (pa + be)) (pvs.take (pa + be) ++ [((none, 0, 0) : Sl)] ++ pvs.drop (pa + be)) := by
    refine ⟨by simp [hpl], ow3.reblk fun b _ e => by omega, fun i x pv hx hp => ?_⟩
    have key : ∀ {j : Nat} {y : List Pr} {qv : Sl}, (t.map Nd.props)[j]? = some y → pvs[j]? = some qv → RdS rPr 2 (fun b => lo ≤ b ∧ o3.ownBlock ≠ some b) w3 (slV qv) y := fun {j y qv} hy hq => by
      refine RdS.keep (stable_flat pC) n3.keep ((h.pr j y qv hy hq).mono (mono_flat pC) fun b hb e => ?_)
      exact ⟨e.1, fun e2 => by have := (ow3.lt e2).1; omega⟩
    rw [List.map_append, List.map_append, List.append_assoc, List.getElem?_append] at hx
    rw [List.append_assoc, List.getElem?_append] at hp
    simp only [List.length_map, List.length_take] at hx hp
    split at hx
    · rw [if_pos (by omega), List.getElem?_take, if_pos (by omega)] at hp
      rw [List.map_take, List.getElem?_take, if_pos (by omega)] at hx
      exact key hx hp
    · rw [if_neg (by omega)] at hp
      rw [List.getElem?_append] at hx hp
      simp only [List.length_map, List.length_singleton] at hx hp
      split at hx
      · rw [if_pos (by omega)] at hp
        have e1 : i - min (pa + be) t.length = 0 := by omega
        have e2 : i - min (pa + be) pvs.length = 0 := by omega
        rw [e1] at hx
        rw [e2] at hp
        simp only [List.map_cons, List.map_nil, List.getElem?_cons_zero, Option.some.injEq] at hx hp
        subst hx
        subst hp
        exact RdS.nil
      · rw [if_neg (by omega)] at hp
        rw [List.map_drop, List.getElem?_drop] at hx
        rw [List.getElem?_drop] at hp
        have e3 : pa + be + (i - min (pa + be) pvs.length - 1) = pa + be + (i - min (pa + be) t.length - 1) := by rw [hpl]
        rw [e3] at hp
        exact key hx hp
  rw [hz3] at tr3
  generalize hP0 : t.take (pa + be) ++ [(⟨pa, nm, []⟩ : Nd)] = P0 at tr3
  have hPl : P0.length = pa + be + 1 := by rw [← hP0]; simp; omega
  generalize hR : t.drop (pa + be) = R at tr3
  have hRl : R.length = t.length - (pa + be) := by rw [← hR]; simp
  have hgoal : t.take (pa + be) ++ (⟨pa, nm, []⟩ : Nd) :: R.map (shP (pa + be)) = P0 ++ (R.map (shP (pa + be)) ++ []) := by rw [← hP0]; simp
  rw [hgoal]
  have ho3 : ∀ b, o3.ownBlock = some b → w.heap.size ≤ b := fun b e => (ow3.lt e).1
  clear hgoal ow3 hz3
  (repeat' (first | refine Wl.moveE (by conv => { lhs; whnf }) ?_ | refine Wl.assignE (by conv => { lhs; whnf }) ?_ | refine Wl.nil ?_ | refine Qseq.normal ?_ | refine Wc.seq ?_ | refine Wc.region ?_ | refine Wc.block ?_ | refine Wl.add rfl rfl (by omega) (by omega) ?_))
  refine Wc.loop (σ := Nat × Value × List Sl) (fun s => [(8, vi (pa + be : Nat)), (9, s.2.1), (10, vi (pa + be + 1 + s.1 : Nat))]) (fun s w' => s.1 ≤ R.length ∧ TrR lo w' s.2.1 (P0 ++ ((R.take s.1).map (shP (pa + be)) ++ R.drop s.1)) s.2.2 ∧ (∀ b, s.2.1.ownBlock = some b → w.heap.size ≤ b) ∧ New w w') (fun s => R.length - s.1)
    (0, o3, pvs.take (pa + be) ++ [((none, 0, 0) : Sl)] ++ pvs.drop (pa + be)) ⟨?_, rfl, ?_, trivial⟩ ⟨Nat.zero_le _, tr3, ?_, n3⟩ ?_
  · show vi ((pa : Int) + (be : Int)) = _
    congr 1
  · show vi ((pa : Int) + (be : Int) + 1) = _
    congr 1
  · exact ho3
  rintro ⟨j, vo, qvs⟩ G w4 ⟨hj, tr4, ho4, n4⟩
  dsimp only at hj tr4 ho4 n4
  simp only [upds]
  have hll : (P0 ++ ((R.take j).map (shP (pa + be)) ++ R.drop j)).length = t.length + 1 := by simp only [List.length_append, List.length_map, List.length_take, List.length_drop]; omega
  have hzl4 : ((P0 ++ ((R.take j).map (shP (pa + be)) ++ R.drop j)).zip qvs).length = t.length + 1 := by rw [List.length_zip, tr4.len, hll]; omega
  obtain ⟨g, gc, rfl, hgb, hgl, hob⟩ := tr4.arr.blk (by intro e; rw [e] at hzl4; simp at hzl4)
  have hgw := ho4 g hob
  (repeat' (first | refine Wl.moveE (by conv => { lhs; whnf }) ?_ | refine Wl.assignE (by conv => { lhs; whnf }) ?_ | refine Wl.nil ?_ | refine Wl.lenS rfl ?_ | refine Qseq.normal ?_ | refine Wc.seq ?_ | refine Wc.region ?_ | refine Wc.block ?_ | refine Wc.skip ?_ | refine Wc.exit ?_ | refine Wc.ret ?_ | refine Qseq.exit ?_ | refine Qblk.hit ?_ | refine Qloop.exit ?_ | refine Wc.condT rfl ?_ | refine Wc.condF rfl ?_ | refine Wl.lss rfl rfl (fun _ => ?_) (fun _ => ?_)))
  · obtain ⟨x, hx⟩ := get_lt R (k := j) (by omega)
    have hget := sh_get (f := shP (pa + be)) (P0 := P0) hx
    have hset := sh_step (f := shP (pa + be)) (P0 := P0) hx
    rw [hPl] at hget hset
    refine Wl.idxAddr tr4.rd rfl rfl (by omega) (by rw [Int.toNat_natCast]; exact hget) fun b o cs hl' hR' hat => ?_
    obtain ⟨xv, rfl, _⟩ := hR'
    (repeat' (refine Wl.fieldAddr rfl rfl ?_))
    refine Wl.load1 rfl (hat.get 0 rfl) ?_
    clear hat
    (repeat' (first | refine Wl.moveE (by conv => { lhs; whnf }) ?_ | refine Wl.assignE (by conv => { lhs; whnf }) ?_ | refine Wl.nil ?_ | refine Qseq.normal ?_ | refine Wc.region ?_ | refine Wc.skip ?_ | refine Qblk.normal ?_ | refine Wc.condT rfl ?_ | refine Wc.condF rfl ?_ | refine Wl.add rfl rfl (by omega) (by omega) ?_ | refine Wl.geq rfl rfl (fun _ => ?_) (fun _ => ?_)))
    · have hsh : shP (pa + be) x = { x with parent := x.parent + 1 } := if_pos (by omega)
      obtain ⟨qv, hqv, hzq⟩ := tr4.zip hget
      refine Wl.idxAddr tr4.rd rfl rfl (by omega) (by rw [Int.toNat_natCast]; exact hget) fun b o cs hl' hR' hat => ?_
      obtain ⟨xv, rfl, _⟩ := hR'
      (repeat' (refine Wl.fieldAddr rfl rfl ?_))
      refine Wl.load1 rfl (hat.get 0 rfl) ?_
      clear hat
      have hxp : x.parent < 1000000 := hpar x (List.mem_of_mem_drop (hR ▸ List.mem_of_getElem? hx))
      (repeat' (refine Wl.add rfl rfl (by omega) (by omega) ?_))
      refine Wl.idxP rfl rfl (by omega) (by omega) ?_
      (repeat' (refine Wl.fieldAddr rfl rfl ?_))
      refine Wl.storeOwnF (f := ndV) (sz := 3) (o := 0) (j := pa + be + 1 + j) (p := (x, qv)) (q := (shP (pa + be) x, qv)) (u := vi (x.parent + 1)) (cap := gc) (fun _ => rfl) (by omega) rfl hzq (by rw [hsh]; rfl) tr4.arr rfl (by show Value.pointer (some ⟨g, 0 + ((pa + be + 1 + j : Nat) : Int).toNat * 3 + 0, none⟩) = _; simp) rfl fun w5 o5 c5 => ?_
      have tr5 := tr4.setAt (x' := shP (pa + be) x) (q := qv) (by omega) (by rw [shP_props]; exact tr4.pr _ _ _ (by rw [List.getElem?_map, hget]; rfl) hqv) o5 c5
      rw [hset, list_set_self hqv] at tr5
      (repeat' (first | refine Wl.moveE (by conv => { lhs; whnf }) ?_ | refine Wl.assignE (by conv => { lhs; whnf }) ?_ | refine Wl.nil ?_ | refine Qseq.normal ?_ | refine Wc.region ?_ | refine Qblk.normal ?_ | refine Wl.add rfl rfl (by omega) (by omega) ?_))
      refine Qloop.normal (j + 1, .slice (some ⟨g, 0, none⟩) _ gc, qvs) ⟨rfl, rfl, ?_, trivial⟩ ⟨by dsimp only; omega, tr5, ho4, Chg.trans n4 c5 fun b hb e => by have := ho4 b e; omega⟩ (by dsimp only; omega)
      show vi ((pa + be + 1 + j : Nat) + 1 : Int) = _
      congr 1
    · have hsh : shP (pa + be) x = x := if_neg (by omega)
      rw [hsh, list_set_self hget] at hset
      refine Qloop.normal (j + 1, .slice (some ⟨g, 0, none⟩) _ gc, qvs) ⟨rfl, rfl, ?_, trivial⟩ ⟨by dsimp only; omega, by dsimp only; rw [← hset]; exact tr4, ho4, n4⟩ (by dsimp only; omega)
      show vi ((pa + be + 1 + j : Nat) + 1 : Int) = _
      congr 1
  · have e : j = R.length := by omega
    subst e
    have e2 : P0 ++ (R.map (shP (pa + be)) ++ []) = P0 ++ ((R.take R.length).map (shP (pa + be)) ++ R.drop R.length) := by rw [List.take_length, List.drop_length]
    refine Qfn.ret2 rfl rfl rfl ⟨_, rfl, _, qvs, rfl, ?_, n4⟩
    rw [e2]; exact tr4
end Go.Proofs.YtjpebmgllfiloaaDoor

namespace Go.Proofs.YtjpebmgllfiloaaDoor.Wk
open Go Go.RowKit

def numb : Nat → List Value → List (Nat × Value)
  | _, [] => []
  | k, u :: us => (k, u) :: numb (k + 1) us
theorem fill_dense (sz : Nat) : ∀ (us : List Value) (k : Nat) (pre zs : List Value), pre.length = k * sz → zs.length = us.length * sz → (∀ u ∈ us, u.cells.size = sz) →
    Instr.fill (fun i => some (i * sz, sz)) (pre ++ zs).toArray (numb k us) = some (pre ++ us.flatMap fun u => u.cells.toList).toArray
  | [], k, pre, zs, hp, hz, _ => by
    have : zs = [] := List.eq_nil_of_length_eq_zero (by simpa using hz)
    subst this
    simp [numb, Instr.fill]
  | u :: us, k, pre, zs, hp, hz, h => by
    have hu := h u (by simp)
    simp only [List.length_cons, Nat.add_mul, Nat.one_mul] at hz
    simp only [numb, Instr.fill, hu]
    rw [if_neg (by simp; omega)]
    have hsp : zs = zs.take sz ++ zs.drop sz := (List.take_append_drop sz zs).symm
    have h1 := foldl_fill (k * sz) u.cells.toList 0 pre (zs.drop sz) (zs.take sz) (by simp [hu]; omega) (by omega)
    rw [List.append_assoc, ← hsp] at h1
    rw [← Array.foldl_toList, Array.toList_zipIdx]
    have h2 : List.foldl (fun (cs : Array Value) (x : Value × Nat) => match x with | (c, j) => cs.setIfInBounds (k * sz + j) c) (pre ++ zs).toArray (u.cells.toList.zipIdx) = (pre ++ u.cells.toList ++ zs.drop sz).toArray := h1
    rw [h2, fill_dense sz us (k + 1) (pre ++ u.cells.toList) (zs.drop sz) (by simp [hu, hp, Nat.add_mul]) (by simp; omega) fun v hv => h v (by simp [hv])]
    simp
def AllR {α : Type} (R : Rel α) (sz : Nat) (Pb : Nat → Prop) (w : World) : List α → List Value → Prop
  | [], [] => True
  | x :: xs, u :: us => u.cells.size = sz ∧ R Pb w x u.cells.toList ∧ AllR R sz Pb w xs us
  | _, _ => False
theorem AllR.length {α : Type} {R : Rel α} {sz : Nat} {Pb : Nat → Prop} {w : World} : ∀ {xs : List α} {us : List Value}, AllR R sz Pb w xs us → us.length = xs.length ∧ ∀ u ∈ us, u.cells.size = sz
  | [], [], _ => ⟨rfl, by simp⟩
  | x :: xs, u :: us, h => by
    obtain ⟨h1, _, h2⟩ := h
    have := h2.length
    exact ⟨by simp [this.1], fun v hv => by rcases List.mem_cons.1 hv with rfl | hv; exact h1; exact this.2 v hv⟩
  | [], _ :: _, h => h.elim
  | _ :: _, [], h => h.elim
theorem AllR.get {α : Type} {R : Rel α} {sz : Nat} {Pb : Nat → Prop} {w : World} : ∀ {xs : List α} {us : List Value} {i : Nat} {x : α}, AllR R sz Pb w xs us → xs[i]? = some x → R Pb w x (((us.flatMap fun u => u.cells.toList).drop (i * sz)).take sz)
  | [], [], i, x, _, h => by simp at h
  | y :: xs, u :: us, i, x, h, hx => by
    obtain ⟨h1, h2, h3⟩ := h
    have hl : u.cells.toList.length = sz := by simpa using h1
    cases i with
    | zero =>
      simp at hx
      subst hx
      simp only [List.flatMap_cons, Nat.zero_mul, List.drop_zero]
      rw [List.take_append_of_le_length (by omega), List.take_of_length_le (by omega)]
      exact h2
    | succ i =>
      have := h3.get (i := i) (by simpa using hx)
      rw [List.flatMap_cons, List.drop_append, List.drop_eq_nil_of_le (show u.cells.toList.length ≤ (i + 1) * sz by rw [hl, Nat.add_mul]; omega), List.nil_append, hl, Nat.add_mul, Nat.one_mul, Nat.add_sub_cancel]
      exact this
  | [], _ :: _, _, _, h, _ => h.elim
  | _ :: _, [], _, _, h, _ => h.elim
section
variable {P : Program} {n : Nat} {ds : List Deferred} {Q : Po} {F : Fr} {w w' : World} {ops rest : List Oper} {d d1 d2 : Nat} {ty ty1 ty2 : TypeId} {pos pos1 pos2 : String} {aft aft1 aft2 : Array Edge}
theorem flat_len {us : List Value} {sz : Nat} (h : ∀ u ∈ us, u.cells.size = sz) : (us.flatMap fun u => u.cells.toList).length = us.length * sz := by
  induction us with
  | nil => simp
  | cons u us ih => simp [ih fun v hv => h v (by simp [hv]), h u (by simp), Nat.add_mul]; omega
theorem run_buildSliceN {t e : TypeId} {sz bytes : Nat} {agg : Bool} {z : Value} {us : List Value} (ht : P.underlying t = some (.slice e)) (he : ElT P e sz bytes agg z) (hv : ∀ u ∈ us, u.cells.size = sz) (hs : 0 < us.length * sz) (hs2 : us.length * sz ≤ 16777216) :
    (Instr.buildSlice t us.length (numb 0 us).toArray).run P w = .ok (.slice (some ⟨w.heap.size, 0, none⟩) us.length us.length) (w.alloc (.cells (us.flatMap fun u => u.cells.toList).toArray e)) := by
  have hne : ¬ us.length * sz = 0 := by omega
  have hz := he.hz
  have e3 := fill_dense sz us 0 [] (((List.range (us.length * sz)).map fun i => z.cells[i % z.cells.size]!)) (by simp) (by simp) hv
  have e4 : (Array.range (us.length * sz)).map (fun i => z.cells[i % z.cells.size]!) = (((List.range (us.length * sz)).map fun i => z.cells[i % z.cells.size]!)).toArray := by
    apply Array.ext'
    simp [Array.toList_range]
  rw [List.nil_append, List.nil_append, ← e4] at e3
  simp only [Instr.buildSlice, Sem.run_bind, run_underlying ht, Result.andThen_ok, he.sizeOf]
  rw [if_neg (by omega), if_neg hne]
  simp only [Sem.run_bind, Result.andThen_ok, he.zeroValue, Sem.run_pure, e3, newRow, run_newObj]
  rfl
/-- []T{a, b, ..}, a list of one's own. -/
theorem Wl.buildSliceN {α : Type} {R : Rel α} {N : Nat} {ps : List (Nat × Operand)} {t e : TypeId} {sz bytes : Nat} {agg : Bool} {z : Value} {xs : List α} {us : List Value} {Pe : Nat → Prop} (hR : GoodR R sz) [ht : Und P t (.slice e)] [he : ElT P e sz bytes agg z] (hN : us.length = N) (hps : ps.map (fun p => (p.1, ev n F p.2)) = numb 0 us)
    (h : AllR R sz (fun b => Pe b ∧ w.heap.size ≠ b) w xs us) (hsz : 0 < us.length * sz) (hsz2 : us.length * sz ≤ 16777216)
    (c : ∀ v w', OwnS R e sz (fun b => b = w.heap.size) Pe w' v xs → New w w' → w'.heap.size = w.heap.size + 1 → v.ownBlock = some w.heap.size → Wl P n ds Q ops rest (upd F d v) w') :
    Wl P n ds Q ops (⟨some d, .buildSlice t N ps.toArray, ty, pos, aft, none⟩ :: rest) F w := by
  subst hN
  obtain ⟨hl, hall⟩ := h.length
  have hr := run_buildSliceN (P := P) (w := w) ht.h he hall hsz hsz2
  have hn : New w (w.alloc (.cells (us.flatMap fun u => u.cells.toList).toArray e)) := Chg.alloc _ _ _
  refine Wl.val (w' := w.alloc (.cells (us.flatMap fun u => u.cells.toList).toArray e)) ?_ (c _ _ ⟨us.flatMap fun u => u.cells.toList, ⟨by rw [flat_len hall, hl], .inr ⟨w.heap.size, us.length, (us.flatMap fun u => u.cells.toList).toArray, by rw [hl], rfl, heap_alloc_new w _, by omega, ?_, by simpa using flat_len hall, ?_⟩⟩, fun i x hx => ?_⟩ hn (by simp) rfl)
  · simp only [execOp, List.map_toArray, hps, Sem.run_bind, hr, Result.andThen_ok, Sem.run_pure]
    rw [hl]
  · have : 0 < sz := by rcases Nat.eq_zero_or_pos sz with h0 | h0; rw [h0] at hsz; simp at hsz; exact h0
    have : us.length * 1 ≤ us.length * sz := Nat.mul_le_mul_left _ this
    unfold maxLen; omega
  · show List.take (xs.length * sz) (us.flatMap fun u => u.cells.toList) = _
    rw [← hl, ← flat_len hall, List.take_length]
  · have h1 := hR.st _ _ _ _ _ hn.keep (h.get hx)
    exact hR.mo _ _ _ _ _ (fun b _ hb => ⟨hb.1, fun e => hb.2 (by simpa [Value.ownBlock] using e)⟩) h1
end
end Go.Proofs.YtjpebmgllfiloaaDoor.Wk

namespace Go.Proofs.YtjpebmgllfiloaaDoor
open Go Wk
open Go.RowKit (Below)
attribute [local irreducible] Go.Calls

abbrev mkS : List UInt8 := [109, 97, 114, 107]
abbrev mkP : Pr := (mkS, [])
abbrev mkN : Nd × Sl := (⟨0, mkS, []⟩, (none, 0, 0))
/-- A list of props with a mark behind it. -/
def LentP (Pb : Nat → Prop) (w : World) (pv : Sl) (l : List Pr) : Prop := ∃ pa pc, pv = (pa, l.length, pc) ∧ OwnPr Pb w (.slice pa (l.length + 1) pc) (l ++ [mkP])
structure TrL (lo : Nat) (lab : Lb) (w : World) (a : Option Addr) (cap : Nat) (t : List Nd) (pvs : List Sl) : Prop where
  len : pvs.length = t.length
  low : ∀ b c, lab b = some c → lo ≤ b ∧ b < w.heap.size
  arr : OwnS (flat ndV) tNd 3 (fun b => lab b = some 0) No w (.slice a (t.length + 1) cap) (t.zip pvs ++ [mkN])
  pr : ∀ i x pv, t[i]? = some x → pvs[i]? = some pv → LentP (fun b => lab b = some (i + 1)) w pv x.props
theorem TrL.new {lo : Nat} {lab : Lb} {w w' : World} {a : Option Addr} {cap : Nat} {t : List Nd} {pvs : List Sl} (h : TrL lo lab w a cap t pvs) (c : New w w') : TrL lo lab w' a cap t pvs :=
  ⟨h.len, fun b q e => ⟨(h.low b q e).1, Nat.lt_of_lt_of_le (h.low b q e).2 c.size⟩, h.arr.new (plain_flat ndV) c, fun i x pv hx hp => by
    obtain ⟨pa, pc, e, o⟩ := h.pr i x pv hx hp
    exact ⟨pa, pc, e, o.new plainPr c⟩⟩
/-- Without the marks. -/
theorem own_short {α : Type} {R : Rel α} {e : TypeId} {sz : Nat} {Pb Pe : Nat → Prop} {w : World} {a : Option Addr} {m cap : Nat} {xs : List α} {y : α} (h : OwnS R e sz Pb Pe w (.slice a m cap) (xs ++ [y])) (hm : m = xs.length + 1) : OwnS R e sz Pb Pe w (.slice a xs.length cap) xs := by
  subst hm
  obtain ⟨g, cap', e, _⟩ := h.blk (by simp)
  simp only [Value.slice.injEq] at e
  have h2 := h.take (m := xs.length) (by simp) rfl (fun e2 => by rw [e2] at e; cases e.1)
  rwa [List.take_left] at h2
theorem TrL.own {lo : Nat} {lab : Lb} {w : World} {a : Option Addr} {cap : Nat} {t : List Nd} {pvs : List Sl} (h : TrL lo lab w a cap t pvs) : TrOwn lo lab w (.slice a t.length cap) t pvs := by
  have hzl : (t.zip pvs).length = t.length := by simp [h.len]
  refine ⟨h.len, h.low, ?_, fun i x pv hx hp => ?_⟩
  · have := own_short h.arr (by rw [hzl])
    rwa [hzl] at this
  · obtain ⟨pa, pc, rfl, o⟩ := h.pr i x pv hx hp
    exact own_short o rfl
set_option maxHeartbeats 1000000 in
set_option maxRecDepth 4000 in
theorem lent_spec {Pt : Nat → Prop} {w : World} {v : Value} {t : List Nd} (h : RdS rNd 3 Pt w v t) (hl : t.length ≤ 1500000) (hpl : ∀ x ∈ t, x.props.length ≤ 1500000) :
    Calls Tryd.prog 9 #[v] w (Ret fun r w' => ∃ lab a cap pvs, r = .slice a t.length cap ∧ TrL w.heap.size lab w' a cap t pvs ∧ New w w') := by
  refine calls_of_Wc Tryd.func9 rfl Tryd.ntmps9 rfl ?_
  (repeat' (first | refine Wl.moveE (by conv => { lhs; whnf }) ?_ | refine Wl.assignE (by conv => { lhs; whnf }) ?_ | refine Wl.nil ?_ | refine Qseq.normal ?_ | refine Wc.seq ?_ | refine Wc.region ?_))
  refine Wl.call (Twin_spec h (by omega) (fun x hx => by have := hpl x hx; omega)) rfl ?_
  rintro v1 w1 ⟨lab, pvs, to1, n1⟩
  have hzl : (t.zip pvs).length = t.length := by simp [to1.len]
  obtain ⟨a, cap, rfl, hcap, _⟩ := to1.arr.form
  have arr1 := to1.arr
  rw [hzl] at arr1 hcap ⊢
  have s1 := n1.size
  (repeat' (first | refine Wl.assignE (by conv => { lhs; whnf }) ?_ | refine Wl.nil ?_ | refine Qseq.normal ?_ | refine Wc.seq ?_ | refine Wc.region ?_ | refine Wc.block ?_))
  refine Wc.loop (σ := Nat × Lb × List Sl) (fun s => [(0, .slice a t.length cap), (3, vi s.1)])
    (fun s w' => s.1 ≤ t.length ∧ s.2.2.length = t.length ∧ (∀ b c, s.2.1 b = some c → w.heap.size ≤ b ∧ b < w'.heap.size) ∧ OwnS (flat ndV) tNd 3 (fun b => s.2.1 b = some 0) No w' (.slice a t.length cap) (t.zip s.2.2) ∧
      (∀ (j : Nat) (x : Nd) (pv : Sl), j < s.1 → t[j]? = some x → s.2.2[j]? = some pv → LentP (fun b => s.2.1 b = some (j + 1)) w' pv x.props) ∧
      (∀ (j : Nat) (x : Nd) (pv : Sl), s.1 ≤ j → t[j]? = some x → s.2.2[j]? = some pv → OwnPr (fun b => s.2.1 b = some (j + 1)) w' (slV pv) x.props) ∧ New w w') (fun s => t.length - s.1)
    (0, lab, pvs) ⟨rfl, rfl, trivial⟩ ⟨Nat.zero_le _, to1.len, to1.low, arr1, fun j x pv hj => (by omega), fun j x pv _ hx hp => to1.pr j x pv hx hp, n1⟩ ?_
  rintro ⟨i, lb, qvs⟩ G w2 ⟨hi, hql, hlow, o2, hdone, htodo, n2⟩
  dsimp only at hi hql hlow o2 hdone htodo
  simp only [upds]
  have hqzl : (t.zip qvs).length = t.length := by simp [hql]
  (repeat' (first | refine Wl.moveE (by conv => { lhs; whnf }) ?_ | refine Wl.nil ?_ | refine Wl.lenS rfl ?_ | refine Qseq.normal ?_ | refine Wc.seq ?_ | refine Wc.region ?_ | refine Wc.block ?_ | refine Wc.skip ?_ | refine Wc.exit ?_ | refine Qseq.exit ?_ | refine Qblk.hit ?_ | refine Qloop.exit ?_ | refine Wc.condT rfl ?_ | refine Wc.condF rfl ?_ | refine Wl.lss rfl rfl (fun _ => ?_) (fun _ => ?_)))
  · obtain ⟨x, hx⟩ := get_lt t (k := i) (by omega)
    obtain ⟨pv, hpv⟩ := get_lt qvs (k := i) (by omega)
    have hz : (t.zip qvs)[i]? = some (x, pv) := by rw [List.getElem?_zip_eq_some]; exact ⟨hx, hpv⟩
    have hxl := hpl x (List.mem_of_getElem? hx)
    have ho := htodo i x pv (Nat.le_refl _) hx hpv
    obtain ⟨pa, pl, pc⟩ := pv
    obtain ⟨ra, rc, re, _, _⟩ := ho.form
    simp only [slV, Value.slice.injEq] at re
    obtain ⟨rfl, rfl, rfl⟩ := re
    refine Wl.idxAddr (o2.rd (mono_flat ndV)) rfl rfl (by omega) hz fun b o cs hl' hR hat => ?_
    obtain rfl : cs = ndV (x, _) := hR
    (repeat' (refine Wl.fieldAddr rfl rfl ?_))
    refine Wl.load1 rfl (hat.get 2 rfl) ?_
    clear hat
    (repeat' (first | refine Wl.moveE (by conv => { lhs; whnf }) ?_ | refine Wl.assignE (by conv => { lhs; whnf }) ?_ | refine Wl.nil ?_ | refine Wl.lenS rfl ?_ | refine Qseq.normal ?_ | refine Wc.region ?_))
    refine Wl.idxAddr (o2.rd (mono_flat ndV)) rfl rfl (by omega) hz fun b o cs hl' hR hat => ?_
    obtain rfl : cs = ndV (x, _) := hR
    (repeat' (refine Wl.fieldAddr rfl rfl ?_))
    refine Wl.load1 rfl (hat.get 2 rfl) ?_
    clear hat
    refine Wl.buildF (ps := [(0, .const (vs mkS))]) (parts := [(0, vs mkS)]) rfl rfl (by simp [Value.cells]) ?_
    refine Wl.append1 (R := rPr) (y := mkP) goodPr ho rfl rfl rfl rfl rfl (by omega) (by omega) (by simp only [maxLen]; omega) (by omega) rfl rfl fun pv' w3 p3 o3 c3 lie => ?_
    (repeat' (refine Wl.moveE (by conv => { lhs; whnf }) ?_))
    obtain ⟨qa, qc, rfl, hq1, hq2⟩ := o3.form
    rw [List.length_append, List.length_singleton] at hq1
    refine Wl.sliceToP (b := x.props.length) rfl rfl (by omega) ?_
    have s2 := n2.size
    have s3 := c3.size
    have hob : ∀ b, (Value.slice pa x.props.length pc).ownBlock = some b → lb b = some (i + 1) := fun b e => (ho.lt e).1
    have o23 := o2.chg (plain_flat ndV) c3 (fun b e1 e2 => by have := (o2.lt e1).1; rw [hob b e2] at this; cases this)
    have n3 : New w w3 := Chg.trans n2 c3 fun b hb e => by have := (hlow b _ (hob b e)).1; omega
    obtain ⟨g, gc, ge, hgb, hgl, hgo⟩ := o23.blk (by intro e; rw [e] at hqzl; simp at hqzl; omega)
    rw [hqzl] at ge
    simp only [Value.slice.injEq] at ge
    obtain ⟨rfl, _, rfl⟩ := ge
    refine Wl.idxP rfl rfl (by omega) (by omega) ?_
    (repeat' (refine Wl.fieldAddr rfl rfl ?_))
    refine Wl.storeOwnF (f := ndV) (sz := 3) (o := 2) (j := i) (p := (x, (pa, x.props.length, pc))) (q := (x, (qa, x.props.length, qc))) (u := .slice qa x.props.length qc) (cap := cap) (fun _ => rfl) (by omega) rfl hz rfl o23 (by rw [hqzl]) (by show Value.pointer (some ⟨g, 0 + (i : Int).toNat * 3 + 2, none⟩) = _; simp) rfl fun w4 o4 c4 => ?_
    rw [zip_set2, list_set_self hx] at o4
    (repeat' (first | refine Wl.moveE (by conv => { lhs; whnf }) ?_ | refine Wl.assignE (by conv => { lhs; whnf }) ?_ | refine Wl.nil ?_ | refine Qseq.normal ?_ | refine Wc.region ?_ | refine Qblk.normal ?_ | refine Wl.add rfl rfl (by omega) (by omega) ?_))
    have s4 := c4.size
    have hlg : lb g = some 0 := hgb
    let lb' : Lb := fun b => if b < w2.heap.size then lb b else if b < w3.heap.size then some (i + 1) else none
    have hold : ∀ b c, lb b = some c → lb' b = some c := fun b c e => by
      show (if b < w2.heap.size then lb b else _) = _
      rw [if_pos (hlow b c e).2]; exact e
    have hog : ∀ b, (Value.slice (some (⟨g, 0, none⟩ : Addr)) t.length cap).ownBlock = some b → b = g := fun b e => by cases e; rfl
    refine Qloop.normal (i + 1, lb', qvs.set i (qa, x.props.length, qc)) ⟨rfl, rfl, trivial⟩ ⟨by dsimp only; omega, by simpa using hql, fun b c e => ?_, o4.reblk fun b _ e => hold b 0 e, fun j y pw hj hy hw => ?_, fun j y pw hj hy hw => ?_, Chg.trans n3 c4 fun b hb e => by have := hog b e; subst this; have := (hlow b _ hlg).1; omega⟩ (by dsimp only; omega)
    · dsimp only at e
      show _ ∧ _
      by_cases hb : b < w2.heap.size
      · rw [show lb' b = lb b from if_pos hb] at e
        have := hlow b c e; omega
      · have e' : (if b < w3.heap.size then some (i + 1) else none) = some c := by rw [← e]; exact (if_neg hb).symm
        split at e'
        · omega
        · cases e'
    · dsimp only at hj hw ⊢
      rw [List.getElem?_set] at hw
      by_cases hij : i = j
      · subst hij
        rw [if_pos rfl, if_pos (by omega)] at hw
        cases hw
        rw [hx] at hy
        cases hy
        refine ⟨qa, qc, rfl, ?_⟩
        have h5 := o3.chg plainPr c4 (fun b e1 e2 => by
          have := hog b e2
          subst this
          rcases (o3.lt e1).1 with e | e
          · rw [hlg] at e; cases e
          · have := (hlow b _ hlg).2; omega)
        rw [List.length_append, List.length_singleton] at h5
        refine h5.reblk fun b hb e => ?_
        rcases e with e | e
        · exact hold b _ e
        · have hb3 := (o3.lt (k := b) (by rw [List.length_append, List.length_singleton]; exact hb)).2
          show (if b < w2.heap.size then lb b else if b < w3.heap.size then some (i + 1) else none) = _
          rw [if_neg (by omega), if_pos hb3]
      · rw [if_neg hij] at hw
        obtain ⟨pa', pc', e1, o5⟩ := hdone j y pw (by omega) hy hw
        refine ⟨pa', pc', e1, ?_⟩
        have h5 := (o5.chg plainPr c3 (fun b e1 e2 => by have h6 := (o5.lt e1).1; rw [hob b e2] at h6; cases h6; omega)).chg plainPr c4 (fun b e1 e2 => by have := hog b e2; subst this; have h6 := (o5.lt e1).1; rw [hlg] at h6; cases h6)
        exact h5.reblk fun b _ e => hold b _ e
    · dsimp only at hj hw ⊢
      rw [List.getElem?_set, if_neg (by omega)] at hw
      have o5 := htodo j y pw (by omega) hy hw
      have h5 := (o5.chg plainPr c3 (fun b e1 e2 => by have h6 := (o5.lt e1).1; rw [hob b e2] at h6; cases h6; omega)).chg plainPr c4 (fun b e1 e2 => by have := hog b e2; subst this; have h6 := (o5.lt e1).1; rw [hlg] at h6; cases h6)
      exact h5.reblk fun b _ e => hold b _ e
  · have e : i = t.length := by omega
    subst e
    refine Wl.buildF (ps := [(1, .const (vs mkS))]) (parts := [(1, vs mkS)]) rfl rfl (by simp [Value.cells]) ?_
    refine Wl.append1 (R := flat ndV) (y := mkN) goodNdV o2 rfl rfl rfl rfl rfl (by omega) (by omega) (by simp only [maxLen]; omega) (by omega) rfl rfl fun v3 w3 p3 o3 c3 lie => ?_
    obtain ⟨qa, qc, rfl, hq1, hq2⟩ := o3.form
    rw [List.length_append, List.length_singleton, hqzl] at hq1 o3 ⊢
    (repeat' (first | refine Wl.moveE (by conv => { lhs; whnf }) ?_ | refine Wl.lenS rfl ?_))
    refine Wl.sliceToP (b := t.length) rfl rfl (by omega) ?_
    (repeat' (first | refine Wl.assignE (by conv => { lhs; whnf }) ?_ | refine Wl.nil ?_ | refine Qseq.normal ?_ | refine Wc.ret ?_))
    have s2 := n2.size
    have s3 := c3.size
    have hob : ∀ b, (Value.slice a t.length cap).ownBlock = some b → lb b = some 0 := fun b e => (o2.lt e).1
    let lb' : Lb := fun b => if b < w2.heap.size then lb b else if b < w3.heap.size then some 0 else none
    have hold : ∀ b c, lb b = some c → lb' b = some c := fun b c e => by
      show (if b < w2.heap.size then lb b else _) = _
      rw [if_pos (hlow b c e).2]; exact e
    refine Qfn.ret1 rfl rfl ⟨_, rfl, lb', qa, qc, qvs, rfl, ⟨hql, fun b c e => ?_, o3.reblk fun b hb e => ?_, fun j y pw hy hw => ?_⟩, Chg.trans n2 c3 fun b hb e => by have := (hlow b _ (hob b e)).1; omega⟩
    · by_cases hb : b < w2.heap.size
      · rw [show lb' b = lb b from if_pos hb] at e
        have := hlow b c e; omega
      · have e' : (if b < w3.heap.size then some 0 else none) = some c := by rw [← e]; exact (if_neg hb).symm
        split at e'
        · omega
        · cases e'
    · rcases e with e | e
      · exact hold b _ e
      · have hb3 := (o3.lt hb).2
        show (if b < w2.heap.size then lb b else if b < w3.heap.size then some 0 else none) = _
        rw [if_neg (by omega), if_pos hb3]
    · obtain ⟨pa', pc', e1, o5⟩ := hdone j y pw (List.getElem?_eq_some_iff.1 hy).1 hy hw
      refine ⟨pa', pc', e1, ?_⟩
      have h5 := o5.chg plainPr c3 (fun b e1 e2 => by have h6 := (o5.lt e1).1; rw [hob b e2] at h6; cases h6)
      exact h5.reblk fun b _ e => hold b _ e
end Go.Proofs.YtjpebmgllfiloaaDoor

namespace Go.Proofs.YtjpebmgllfiloaaDoor
open Go Wk
open Go.RowKit (Below)
attribute [local irreducible] Go.Calls

theorem keyPr (p : Pr) (h1 : p.1.length ≤ maxLen) (h2 : p.2.length ≤ maxLen) : ∃ q, keyOf Tryd.prog 39 (.agg (pC p).toArray) = some q := by
  obtain ⟨a, b⟩ := p
  have g1 : Tryd.prog.keyType 39 = true := by kernel_rfl
  have g2 : (Value.agg (pC (a, b)).toArray).formed Tryd.prog 39 = true := by kernel_rfl
  have hc : Tryd.prog.cellsOf 39 = 2 := by kernel_rfl
  have hst : Tryd.prog.cellsOf 9 = 1 := by kernel_rfl
  have l1 : (⟨a.toArray⟩ : ByteArray).size ≤ maxLen := by simpa only [ByteArray.size, List.size_toArray] using h1
  have l2 : (⟨b.toArray⟩ : ByteArray).size ≤ maxLen := by simpa only [ByteArray.size, List.size_toArray] using h2
  obtain ⟨D, hD⟩ : ∃ D, Tryd.prog.types.size = D + 1 := ⟨_, show Tryd.prog.types.size = (Tryd.prog.types.size - 1) + 1 by kernel_rfl⟩
  have h3 : ∃ L, Tryd.prog.keyLits (Tryd.prog.types.size + 1) 39 [vs a, vs b] = some L := by
    rw [hD]
    refine ⟨[.string a, .string b], ?_⟩
    simp [Program.keyLits, Tryd.underlying39, Tryd.underlying9, hc, hst, l1, l2]
  obtain ⟨L, h3⟩ := h3
  unfold keyOf
  rw [Tryd.underlying39]
  simp only [g1, g2, Bool.and_self, if_true]
  exact ⟨_, by rw [show (Value.agg (pC (a, b)).toArray).cells.toList = [vs a, vs b] from rfl, h3]; rfl⟩
theorem run_neq_pr {w : World} (p : Pr) (h1 : p.1.length ≤ maxLen) (h2 : p.2.length ≤ maxLen) : (binOp .neq 39 (.agg (pC p).toArray) (.agg (pC p).toArray)).run Tryd.prog w = .ok (.bool false) w := by
  obtain ⟨q, hq⟩ := keyPr p h1 h2
  obtain ⟨r, hr, hiff⟩ := run_equal_deep (P := Tryd.prog) w (m := 2) (by decide) (k := 39) (by kernel_rfl) (by rw [Tryd.underlying39]) hq hq
  obtain rfl : r = true := hiff.2 rfl
  have h := run_neq_struct (P := Tryd.prog) (w := w) 39 (pC p).toArray (pC p).toArray
  rw [show (Op.equalIn 10000 39 (.agg (pC p).toArray) (.agg (pC p).toArray)).run Tryd.prog w = .ok true w from hr] at h
  exact h
section
variable {n : Nat} {ds : List Deferred} {C : World → Prop} {K : Fr → Prop} {F : Fr} {ops rest : List Oper} {d : Nat} {ty t' : TypeId} {pos : String} {aft : Array Edge}
theorem Wq.neqPrSame {x y : Operand} {p : Pr} (h1 : p.1.length ≤ maxLen) (h2 : p.2.length ≤ maxLen) (hx : ev n F x = .agg (pC p).toArray) (hy : ev n F y = .agg (pC p).toArray) (c : Wq Tryd.prog n ds C K ops rest (upd F d (.bool false))) :
    Wq Tryd.prog n ds C K ops (⟨some d, .binOp .neq 39 x y t', ty, pos, aft, none⟩ :: rest) F :=
  Wq.val (fun w hw => by
    have hg := run_eqGuard_agg (P := Tryd.prog) (w := w) .neq 39 x y (pC p).toArray (pC p).toArray (by kernel_rfl)
    simp only [execOp, hx, hy, Sem.run_bind, hg, Result.andThen_ok, run_neq_pr p h1 h2, Sem.run_pure]) c
end
/-- Texts of this length at most. -/
def Short (t : List Nd) : Prop := ∀ x ∈ t, ∀ p ∈ x.props, p.1.length ≤ maxLen ∧ p.2.length ≤ maxLen
theorem short_ok {t : List Nd} (h : treeOk t = true) : Short t := fun x hx p hp => by
  obtain ⟨i, hi⟩ := List.mem_iff_getElem?.1 hx
  have h1 := (treeOk_nd h hi).pr
  have key : ∀ (l : List Pr) (seen : List (List UInt8)), propsGo seen l = true → ∀ p ∈ l, p.1.length ≤ 31 ∧ p.2.length ≤ 1024 := by
    intro l
    induction l with
    | nil => intro _ _ p hp; simp at hp
    | cons q r ih =>
      intro seen h p hp
      simp only [propsGo, Bool.and_eq_true, decide_eq_true_eq] at h
      rcases List.mem_cons.1 hp with rfl | hp
      · exact ⟨nameOk_len h.1, h.2.1⟩
      · exact ih _ h.2.2.2 p hp
  unfold propsOk at h1
  simp only [Bool.and_eq_true] at h1
  have := key x.props [] h1.2 p hp
  unfold maxLen; omega
set_option maxHeartbeats 1000000 in
set_option maxRecDepth 4000 in
theorem Same_spec {Pc Pd : Nat → Prop} {w : World} {cv dv : Value} {t : List Nd} (hc : RdS rNd 3 Pc w cv t) (hd : RdS rNd 3 Pd w dv t) (hs : Short t) :
    Calls Tryd.prog 20 #[cv, dv] w (Ret fun r w' => r = .bool true ∧ New w w') := by
  obtain ⟨ca, cc, rfl, hcc1, hcc2⟩ := hc.form
  obtain ⟨da, dc, rfl, hdc1, hdc2⟩ := hd.form
  simp only [maxLen] at hcc2
  refine calls_of_Wc Tryd.func20 rfl Tryd.ntmps20 rfl ?_
  (repeat' (first | refine Wl.moveE (by conv => { lhs; whnf }) ?_ | refine Wl.assignE (by conv => { lhs; whnf }) ?_ | refine Wl.nil ?_ | refine Wl.lenS rfl ?_ | refine Qseq.normal ?_ | refine Wc.seq ?_ | refine Wc.region ?_ | refine Wc.block ?_ | refine Wc.skip ?_ | refine Wc.condF rfl ?_ | (refine Wl.neq rfl rfl (fun _ => ?_) (fun _ => ?_) <;> (first | (exfalso; omega) | skip))))
  refine Wc.loop (σ := Nat) (fun i => [(0, .slice ca t.length cc), (1, .slice da t.length dc), (5, vi i)]) (fun i w' => i ≤ t.length ∧ New w w') (fun i => t.length - i) 0 ⟨rfl, rfl, rfl, trivial⟩ ⟨Nat.zero_le _, Chg.refl _ _⟩ ?_
  rintro i G w1 ⟨hi, n1⟩
  have hc1 := hc.keep stableNd n1.keep
  have hd1 := hd.keep stableNd n1.keep
  simp only [upds]
  (repeat' (first | refine Wl.moveE (by conv => { lhs; whnf }) ?_ | refine Wl.assignE (by conv => { lhs; whnf }) ?_ | refine Wl.nil ?_ | refine Wl.lenS rfl ?_ | refine Qseq.normal ?_ | refine Wc.seq ?_ | refine Wc.region ?_ | refine Wc.block ?_ | refine Wc.skip ?_ | refine Wc.exit ?_ | refine Wc.ret ?_ | refine Qseq.exit ?_ | refine Qblk.hit ?_ | refine Qloop.exit ?_ | refine Wc.condT rfl ?_ | refine Wc.condF rfl ?_ | refine Wl.lss rfl rfl (fun _ => ?_) (fun _ => ?_)))
  · obtain ⟨x, hx⟩ := get_lt t (k := i) (by omega)
    refine Wc.regionN rfl (by kernel_rfl) ?_
    (repeat' (refine Wq.moveE (by conv => { lhs; whnf }) ?_))
    refine Wq.idxAddr hc1 (fun w' hw => New.keep hw) rfl rfl (by omega) hx fun b o cs hl hR hat => ?_
    obtain ⟨xv, rfl, hxr⟩ := hR
    obtain ⟨xa, xc, rfl, hxc1, hxc2⟩ := hxr.form
    (repeat' (refine Wq.fieldAddr rfl rfl ?_))
    refine Wq.load1 rfl (fun w' hw => (hat w' hw).get 0 rfl) ?_
    clear hat
    (repeat' (refine Wq.moveE (by conv => { lhs; whnf }) ?_))
    refine Wq.idxAddr hd1 (fun w' hw => New.keep hw) rfl rfl (by omega) hx fun b o cs hl hR hat => ?_
    obtain ⟨yv, rfl, hyr⟩ := hR
    obtain ⟨ya, yc, rfl, hyc1, hyc2⟩ := hyr.form
    (repeat' (refine Wq.fieldAddr rfl rfl ?_))
    refine Wq.load1 rfl (fun w' hw => (hat w' hw).get 0 rfl) ?_
    clear hat
    (repeat' (first | refine Wq.moveE (by conv => { lhs; whnf }) ?_ | refine Wq.guardY rfl rfl ?_ | (refine Wq.neq rfl rfl (fun _ => ?_) (fun _ => ?_) <;> (first | (exfalso; omega) | skip))))
    refine Wq.idxAddr hc1 (fun w' hw => New.keep hw) rfl rfl (by omega) hx fun b o cs hl hR hat => ?_
    obtain ⟨_, rfl, _⟩ := hR
    (repeat' (first | refine Wq.guardY rfl rfl ?_ | refine Wq.fieldAddr rfl rfl ?_))
    refine Wq.load1 rfl (fun w' hw => (hat w' hw).get 1 rfl) ?_
    clear hat
    (repeat' (first | refine Wq.moveE (by conv => { lhs; whnf }) ?_ | refine Wq.guardY rfl rfl ?_))
    refine Wq.idxAddr hd1 (fun w' hw => New.keep hw) rfl rfl (by omega) hx fun b o cs hl hR hat => ?_
    obtain ⟨_, rfl, _⟩ := hR
    (repeat' (first | refine Wq.guardY rfl rfl ?_ | refine Wq.fieldAddr rfl rfl ?_))
    refine Wq.load1 rfl (fun w' hw => (hat w' hw).get 1 rfl) ?_
    clear hat
    (repeat' (first | refine Wq.moveE (by conv => { lhs; whnf }) ?_ | refine Wq.guardY rfl rfl ?_ | refine Wq.pickFE rfl (by conv => { lhs; whnf }) ?_ | (refine Wq.sneq rfl rfl (fun _ => ?_) (fun _ => ?_) <;> (first | (exfalso; contradiction) | skip))))
    refine Wq.idxAddr hc1 (fun w' hw => New.keep hw) rfl rfl (by omega) hx fun b o cs hl hR hat => ?_
    obtain ⟨v1, rfl, h1⟩ := hR
    obtain ⟨_, _, rfl, _, _⟩ := h1.form
    (repeat' (first | refine Wq.guardY rfl rfl ?_ | refine Wq.fieldAddr rfl rfl ?_))
    refine Wq.load1 rfl (fun w' hw => (hat w' hw).get 2 rfl) ?_
    clear hat
    (repeat' (first | refine Wq.moveE (by conv => { lhs; whnf }) ?_ | refine Wq.guardY rfl rfl ?_ | refine Wq.lenS rfl ?_))
    refine Wq.idxAddr hd1 (fun w' hw => New.keep hw) rfl rfl (by omega) hx fun b o cs hl hR hat => ?_
    obtain ⟨v2, rfl, h2⟩ := hR
    obtain ⟨_, _, rfl, _, _⟩ := h2.form
    (repeat' (first | refine Wq.guardY rfl rfl ?_ | refine Wq.fieldAddr rfl rfl ?_))
    refine Wq.load1 rfl (fun w' hw => (hat w' hw).get 2 rfl) ?_
    clear hat
    (repeat' (first | refine Wq.nil ?_ | refine Wq.guardY rfl rfl ?_ | refine Wq.pickFE rfl (by conv => { lhs; whnf }) ?_ | refine Wq.lenS rfl ?_ | (refine Wq.neq rfl rfl (fun _ => ?_) (fun _ => ?_) <;> (first | (exfalso; omega) | skip))))
    intro w2 n2
    have hxm : x.props.length ≤ maxLen := Nat.le_trans hxc1 hxc2
    simp only [maxLen] at hxm
    (repeat' (first | refine Wl.assignE (by conv => { lhs; whnf }) ?_ | refine Wl.nil ?_ | refine Qseq.normal ?_ | refine Wc.seq ?_ | refine Wc.region ?_ | refine Wc.block ?_ | refine Wc.skip ?_ | refine Wc.condF rfl ?_))
    refine Wc.loop (σ := Nat) (fun j => [(0, .slice ca t.length cc), (1, .slice da t.length dc), (5, vi i), (6, vi j)]) (fun j w' => j ≤ x.props.length ∧ New w w') (fun j => x.props.length - j) 0 ⟨rfl, rfl, rfl, rfl, trivial⟩ ⟨Nat.zero_le _, New.trans n1 n2⟩ ?_
    rintro j G w3 ⟨hj, n3⟩
    have hc3 := hc.keep stableNd n3.keep
    have hd3 := hd.keep stableNd n3.keep
    clear h1 h2 hxr hyr
    simp only [upds]
    (repeat' (first | refine Wl.moveE (by conv => { lhs; whnf }) ?_ | refine Wc.seq ?_ | refine Wc.region ?_))
    refine Wl.idxAddr hc3 rfl rfl (by omega) hx fun b o cs hl hR hat => ?_
    obtain ⟨xv, rfl, hxr⟩ := hR
    obtain ⟨xa, xc, rfl, hxc1, hxc2⟩ := hxr.form
    (repeat' (refine Wl.fieldAddr rfl rfl ?_))
    refine Wl.load1 rfl (hat.get 2 rfl) ?_
    clear hat
    (repeat' (first | refine Wl.moveE (by conv => { lhs; whnf }) ?_ | refine Wl.assignE (by conv => { lhs; whnf }) ?_ | refine Wl.nil ?_ | refine Wl.lenS rfl ?_ | refine Qseq.normal ?_ | refine Wc.seq ?_ | refine Wc.region ?_ | refine Wc.block ?_ | refine Wc.skip ?_ | refine Wc.exit ?_ | refine Qseq.exit ?_ | refine Qblk.normal ?_ | refine Qblk.hit ?_ | refine Qloop.exit ?_ | refine Wc.condT rfl ?_ | refine Wc.condF rfl ?_ | refine Wl.add rfl rfl (by omega) (by omega) ?_ | refine Wl.lss rfl rfl (fun _ => ?_) (fun _ => ?_)))
    · obtain ⟨q, hq⟩ := get_lt x.props (k := j) (by omega)
      have hql := hs x (List.mem_of_getElem? hx) q (List.mem_of_getElem? hq)
      refine Wc.regionN rfl (by kernel_rfl) ?_
      (repeat' (refine Wq.moveE (by conv => { lhs; whnf }) ?_))
      refine Wq.idxAddr hc3 (fun w' hw => New.keep hw) rfl rfl (by omega) hx fun b o cs hl hR hat => ?_
      obtain ⟨xv, rfl, hxr⟩ := hR
      (repeat' (refine Wq.fieldAddr rfl rfl ?_))
      refine Wq.load1 rfl (fun w' hw => (hat w' hw).get 2 rfl) ?_
      clear hat
      (repeat' (refine Wq.moveE (by conv => { lhs; whnf }) ?_))
      refine Wq.idxAddr hxr (fun w' hw => New.keep hw) rfl rfl (by omega) hq fun b o cs hl hR hat => ?_
      obtain rfl : cs = pC q := hR
      refine Wq.loadAt hat rfl rfl ?_
      clear hat
      (repeat' (refine Wq.moveE (by conv => { lhs; whnf }) ?_))
      refine Wq.idxAddr hd3 (fun w' hw => New.keep hw) rfl rfl (by omega) hx fun b o cs hl hR hat => ?_
      obtain ⟨yv, rfl, hyr⟩ := hR
      (repeat' (refine Wq.fieldAddr rfl rfl ?_))
      refine Wq.load1 rfl (fun w' hw => (hat w' hw).get 2 rfl) ?_
      clear hat
      (repeat' (refine Wq.moveE (by conv => { lhs; whnf }) ?_))
      refine Wq.idxAddr hyr (fun w' hw => New.keep hw) rfl rfl (by omega) hq fun b o cs hl hR hat => ?_
      obtain rfl : cs = pC q := hR
      refine Wq.loadAt hat rfl rfl ?_
      clear hat
      refine Wq.neqPrSame hql.1 hql.2 rfl rfl ?_
      (repeat' (refine Wq.nil ?_))
      intro w4 n4
      (repeat' (first | refine Wl.moveE (by conv => { lhs; whnf }) ?_ | refine Wl.assignE (by conv => { lhs; whnf }) ?_ | refine Wl.nil ?_ | refine Qseq.normal ?_ | refine Wc.region ?_ | refine Wc.skip ?_ | refine Qblk.normal ?_ | refine Wc.condF rfl ?_ | refine Wl.add rfl rfl (by omega) (by omega) ?_))
      exact Qloop.normal (j + 1) ⟨rfl, rfl, rfl, rfl, trivial⟩ ⟨by omega, New.trans n3 n4⟩ (by omega)
    · exact Qloop.normal (i + 1) ⟨rfl, rfl, rfl, trivial⟩ ⟨by omega, n3⟩ (by omega)
  · exact Qfn.ret1 rfl rfl ⟨_, rfl, rfl, n1⟩
end Go.Proofs.YtjpebmgllfiloaaDoor

namespace Go.Proofs.YtjpebmgllfiloaaDoor.Wk
open Go Go.RowKit

def boundL (ops : Array Oper) (j : Nat) : List Nat := match ops[j]? with | some o => (o.after.toList.filter (Region.binds .any)).map (·.on) | none => []
def availB (ops : Array Oper) (l : List Nat) (j : Nat) : Bool := (boundL ops j).all fun k => !l.contains k
def nextQ (ops : Array Oper) (l : List Nat) : Option Nat := l.find? fun i => isQ ops i && availB ops l i
def okPairG (ops : Array Oper) (i j : Nat) : Bool := (boundL ops j).contains i || (match ops[i]?, ops[j]? with | some oi, some oj => oi.apart ops oj && oj.apart ops oi | _, _ => false)
def okG (ops : Array Oper) : Bool :=
  Region.noSelect ops && (List.range ops.size).all (fun j => (List.range j).all fun i => okPairG ops i j) && (List.range ops.size).all (fun j => (boundL ops j).all fun k => decide (k < j))
def out (j : Nat) (l : List Nat) : List Nat := l.filter fun k => k != j
section
variable {P : Program} {ops : Array Oper} {C : World → Prop} {Q : Exit → Act → World → Prop}
def TG (P : Program) (ops : Array Oper) (C : World → Prop) (Q : Exit → Act → World → Prop) : Nat → List Nat → Act → World → Prop
  | 0, _, a, w => Q .normal a w
  | f + 1, l, a, w => match nextQ ops l with
    | some q => ∃ o v, ops[q]? = some o ∧ YieldsIn P ops C o v a ∧ TG P ops C Q f (out q l) (a.put o.dst v) w
    | none => ∀ j ∈ l, availB ops l j = true → if j + 1 = ops.size then wpOp P ops Q j (fun a' w' => Q .normal a' w') a w else wpOp P ops QF j (fun a' w' => C w' ∧ TG P ops C Q f (out j l) a' w') a w
theorem out_comm (i j : Nat) (l : List Nat) : out i (out j l) = out j (out i l) := by
  unfold out; rw [List.filter_filter, List.filter_filter]; congr 1; funext k; rw [Bool.and_comm]
theorem mem_out {i j : Nat} {l : List Nat} : i ∈ out j l ↔ i ∈ l ∧ i ≠ j := by unfold out; rw [List.mem_filter]; simp
theorem avail_out {i j : Nat} {l : List Nat} (h : availB ops l i = true) : availB ops (out j l) i = true := by
  unfold availB at h ⊢
  rw [List.all_eq_true] at h ⊢
  intro k hk
  have := h k hk
  simp only [Bool.not_eq_true', Bool.eq_false_iff, ne_eq, List.contains_iff_mem] at this ⊢
  exact fun e => this (mem_out.1 e).1
theorem out_len {j : Nat} {l : List Nat} (hn : l.Nodup) (hj : j ∈ l) : (out j l).length + 1 = l.length := by
  have : out j l = l.erase j := by unfold out; rw [hn.erase_eq_filter]
  rw [this, List.length_erase_of_mem hj]
  have := List.length_pos_of_mem hj
  omega
/-- Two that may both come up now stand apart. -/
structure Ap (ops : Array Oper) (i j : Nat) (oi oj : Oper) : Prop where
  ij : oi.apart ops oj = true
  ji : oj.apart ops oi = true
  si : ∀ cs b, oi.op ≠ .select cs b
  sj : ∀ cs b, oj.op ≠ .select cs b
theorem apart_of (hok : okG ops = true) {l : List Nat} {i j : Nat} {oi oj : Oper} (hi : ops[i]? = some oi) (hj : ops[j]? = some oj) (hil : i ∈ l) (hjl : j ∈ l) (ai : availB ops l i = true) (aj : availB ops l j = true) (hne : i ≠ j) : Ap ops i j oi oj := by
  simp only [okG, Bool.and_eq_true] at hok
  obtain ⟨⟨hns, hpair⟩, _⟩ := hok
  have hsel := Region.noSelect_spec hns
  have his := (Array.getElem?_eq_some_iff.1 hi).1
  have hjs := (Array.getElem?_eq_some_iff.1 hj).1
  have key : ∀ {i j : Nat} {oi oj : Oper}, ops[i]? = some oi → ops[j]? = some oj → i ∈ l → availB ops l j = true → i < j → oi.apart ops oj = true ∧ oj.apart ops oi = true := by
    intro i j oi oj hi hj hil aj hij
    have hjs := (Array.getElem?_eq_some_iff.1 hj).1
    have h3 := List.all_eq_true.1 (List.all_eq_true.1 hpair j (List.mem_range.2 hjs)) i (List.mem_range.2 hij)
    unfold okPairG at h3
    simp only [hi, hj, Bool.or_eq_true, Bool.and_eq_true] at h3
    rcases h3 with h3 | h3
    · exfalso
      have := List.all_eq_true.1 aj i (by simpa using h3)
      rw [List.contains_iff_mem.2 hil] at this
      cases this
    · exact h3
  have sel : ∀ {i : Nat} {o : Oper}, ops[i]? = some o → ∀ cs b, o.op ≠ .select cs b := fun h cs b => hsel _ _ cs b h
  rcases Nat.lt_or_ge i j with h | h
  · have := key hi hj hil aj h; exact ⟨this.1, this.2, sel hi, sel hj⟩
  · have := key hj hi hjl ai (by omega); exact ⟨this.2, this.1, sel hi, sel hj⟩
/-- What only reads and may come up now may be taken now, or had been. -/
theorem TG_quiet (hok : okG ops = true) : ∀ (f : Nat) (q : Nat) (oq : Oper), ops[q]? = some oq → isQ ops q = true → ∀ (l : List Nat) (a : Act) (w : World), l.length = f + 1 → l.Nodup → (∀ i ∈ l, i < ops.size) → q ∈ l → availB ops l q = true →
    (TG P ops C Q (f + 1) l a w ↔ ∃ v, YieldsIn P ops C oq v a ∧ TG P ops C Q f (out q l) (a.put oq.dst v) w) := by
  intro f
  induction f with
  | zero =>
    intro q oq hq hqq l a w hl hn hlt hm ha
    obtain ⟨x, rfl⟩ : ∃ x, l = [x] := by cases l with | nil => cases hl | cons x r => cases r with | nil => exact ⟨x, rfl⟩ | cons y s => simp at hl
    obtain rfl : q = x := by simpa using hm
    have hnq : nextQ ops [q] = some q := by simp [nextQ, hqq, ha]
    rw [TG, hnq]
    simp only [hq, Option.some.injEq]
    exact ⟨fun ⟨o, v, e, h⟩ => by cases e; exact ⟨v, h⟩, fun ⟨v, h⟩ => ⟨oq, v, rfl, h⟩⟩
  | succ f ih =>
    intro q oq hq hqq l a w hl hn hlt hm ha
    rw [TG]
    cases hnq : nextQ ops l with
    | none =>
      exfalso
      have := List.find?_eq_none.1 hnq q hm
      simp [hqq, ha] at this
    | some r =>
      have hr := List.find?_some hnq
      have hrm := List.mem_of_find?_eq_some hnq
      simp only [Bool.and_eq_true] at hr
      dsimp only
      by_cases hrq : r = q
      · subst hrq
        simp only [hq, Option.some.injEq]
        exact ⟨fun ⟨o, v, e, h⟩ => by cases e; exact ⟨v, h⟩, fun ⟨v, h⟩ => ⟨oq, v, rfl, h⟩⟩
      · obtain ⟨or', hor⟩ : ∃ o, ops[r]? = some o := ⟨ops[r]'(hlt r hrm), Array.getElem?_eq_getElem (hlt r hrm)⟩
        have ap := apart_of hok hor hq hrm hm hr.2 ha hrq
        have hne := (Oper.apart_spec ap.ij).2.1
        have lr := out_len hn hrm
        have lq := out_len hn hm
        have nr : (out r l).Nodup := hn.filter _
        have nq : (out q l).Nodup := hn.filter _
        have e1 := fun a' => ih q oq hq hqq (out r l) a' w (by omega) nr (fun i hi => hlt i (mem_out.1 hi).1) (mem_out.2 ⟨hm, fun e => hrq e.symm⟩) (avail_out ha)
        have e2 := fun a' => ih r or' hor hr.1 (out q l) a' w (by omega) nq (fun i hi => hlt i (mem_out.1 hi).1) (mem_out.2 ⟨hrm, hrq⟩) (avail_out hr.2)
        constructor
        · rintro ⟨o, vr, eo, hy, ht⟩
          rw [hor] at eo
          cases eo
          obtain ⟨vq, hyq, ht2⟩ := (e1 _).1 ht
          refine ⟨vq, (yields_unput ap.ij ap.sj).1 hyq, (e2 _).2 ⟨vr, (yields_unput ap.ji ap.si).2 hy, ?_⟩⟩
          rw [out_comm, ← Act.put_comm a vr vq hne]
          exact ht2
        · rintro ⟨vq, hyq, ht⟩
          obtain ⟨vr, hyr, ht2⟩ := (e2 _).1 ht
          refine ⟨or', vr, hor, (yields_unput ap.ji ap.si).1 hyr, (e1 _).2 ⟨vq, (yields_unput ap.ij ap.sj).2 hyq, ?_⟩⟩
          rw [out_comm, Act.put_comm a vr vq hne]
          exact ht2
/-- Another operation that may come up now may be taken first. -/
theorem TG_chain (hok : okG ops = true) {j : Nat} {oj : Oper} (hj : ops[j]? = some oj) (hjq : isQ ops j = false) (hjl : j + 1 ≠ ops.size) : ∀ (f : Nat) (l : List Nat) (a : Act) (w : World), l.length = f + 1 → l.Nodup → (∀ i ∈ l, i < ops.size) → j ∈ l → availB ops l j = true →
    TG P ops C Q (f + 1) l a w → wpOp P ops QF j (fun a' w' => C w' ∧ TG P ops C Q f (out j l) a' w') a w := by
  intro f
  induction f with
  | zero =>
    intro l a w hl hn hlt hm ha h
    obtain ⟨x, rfl⟩ : ∃ x, l = [x] := by cases l with | nil => cases hl | cons x r => cases r with | nil => exact ⟨x, rfl⟩ | cons y s => simp at hl
    obtain rfl : j = x := by simpa using hm
    have hnq : nextQ ops [j] = none := by simp [nextQ, hjq]
    rw [TG, hnq] at h
    have := h j (by simp) ha
    rwa [if_neg hjl] at this
  | succ f ih =>
    intro l a w hl hn hlt hm ha h
    have h0 := h
    rw [TG] at h
    cases hnq : nextQ ops l with
    | none =>
      rw [hnq] at h
      have := h j hm ha
      rwa [if_neg hjl] at this
    | some r =>
      have hr := List.find?_some hnq
      have hrm := List.mem_of_find?_eq_some hnq
      simp only [Bool.and_eq_true] at hr
      obtain ⟨or', hor⟩ : ∃ o, ops[r]? = some o := ⟨ops[r]'(hlt r hrm), Array.getElem?_eq_getElem (hlt r hrm)⟩
      have hrj : r ≠ j := fun e => by rw [e, hjq] at hr; cases hr.1
      have ap := apart_of hok hor hj hrm hm hr.2 ha hrj
      have lr := out_len hn hrm
      have lj := out_len hn hm
      have nr : (out r l).Nodup := hn.filter _
      have nj : (out j l).Nodup := hn.filter _
      obtain ⟨v, hy, ht⟩ := (TG_quiet hok (f + 1) r or' hor hr.1 l a w hl hn hlt hrm hr.2).1 h0
      have hw := ih (out r l) _ w (by omega) nr (fun i hi => hlt i (mem_out.1 hi).1) (mem_out.2 ⟨hm, fun e => hrj e.symm⟩) (avail_out ha) ht
      refine wpOp_mono (fun a' w' h' => ?_) (wpOp_put hj ap.ij ap.si ap.sj hy hw)
      obtain ⟨hy', hC', ht'⟩ := h'
      refine ⟨hC', (TG_quiet hok f r or' hor hr.1 (out j l) a' w' (by omega) nj (fun i hi => hlt i (mem_out.1 hi).1) (mem_out.2 ⟨hrm, hrj⟩) (avail_out hr.2)).2 ⟨v, hy', ?_⟩⟩
      rw [out_comm]; exact ht'
def okGL (ops : Array Oper) : Bool := okG ops && (isQ ops (ops.size - 1) || (List.range ops.size).all fun k => (ahead ops ops.size [ops.size - 1]).contains k)
theorem wpAny_of_TG (hok2 : okGL ops = true) : ∀ (fuel : Nat) (listed : Array Bool) (a : Act) (w : World), listed.size = ops.size → (left ops listed).length = fuel → Clos ops listed → (fuel ≠ 0 → C w) → TG P ops C Q fuel (left ops listed) a w → wpAny P .any ops Q fuel listed a w := by
  have hok : okG ops = true := by unfold okGL at hok2; simp only [Bool.and_eq_true] at hok2; exact hok2.1
  have hlast : (isQ ops (ops.size - 1) || (List.range ops.size).all fun k => (ahead ops ops.size [ops.size - 1]).contains k) = true := by unfold okGL at hok2; simp only [Bool.and_eq_true] at hok2; exact hok2.2
  have hdown : ∀ (j : Nat) (o : Oper), ops[j]? = some o → ∀ e ∈ o.after, Region.binds .any e = true → e.on < j := by
    intro j o ho e he hb
    have := hok
    simp only [okG, Bool.and_eq_true] at this
    have h3 := List.all_eq_true.1 this.2 j (List.mem_range.2 (Array.getElem?_eq_some_iff.1 ho).1)
    have hm : e.on ∈ boundL ops j := by
      unfold boundL; rw [ho]
      exact List.mem_map.2 ⟨e, List.mem_filter.2 ⟨by simpa using he, hb⟩, rfl⟩
    exact of_decide_eq_true (List.all_eq_true.1 h3 _ hm)
  have rdy : ∀ listed : Array Bool, listed.size = ops.size → ∀ i, i ∈ Region.ready .any ops listed → i ∈ left ops listed ∧ availB ops (left ops listed) i = true := by
    intro listed hs i hi
    obtain ⟨h0, o, ho, hall⟩ := mem_ready.1 hi
    refine ⟨?_, ?_⟩
    · unfold left
      rw [List.mem_filter, List.mem_range]
      exact ⟨(Array.getElem?_eq_some_iff.1 ho).1, by simp [h0]⟩
    · unfold availB boundL
      rw [ho, List.all_eq_true]
      intro k hk
      obtain ⟨e, he, rfl⟩ := List.mem_map.1 hk
      rw [List.mem_filter] at he
      have h1 := hall e (by simpa using he.1) he.2
      simp only [Bool.not_eq_true', Bool.eq_false_iff, ne_eq, List.contains_iff_mem]
      intro hm
      unfold left at hm
      rw [List.mem_filter, List.mem_range] at hm
      have hlt : e.on < listed.size := by rw [hs]; exact hm.1
      have h2 := hm.2
      simp [Array.getD_eq_getD_getElem?, Array.getElem?_eq_getElem hlt] at h1 h2
      rw [h1] at h2; cases h2
  intro fuel
  induction fuel with
  | zero =>
    intro listed a w hs hl hcl hC h
    have hnil : left ops listed = [] := List.eq_nil_of_length_eq_zero hl
    refine ⟨?_, h⟩
    rw [List.eq_nil_iff_forall_not_mem]
    intro i hi
    have := (rdy listed hs i hi).1
    rw [hnil] at this
    cases this
  | succ fuel ih =>
    intro listed a w hs hl hcl hC h
    replace hC := hC (by simp)
    have hnd : (left ops listed).Nodup := List.Nodup.sublist List.filter_sublist List.nodup_range
    have hunl : ∀ i ∈ left ops listed, i < ops.size ∧ listed.getD i true = false := fun i hi => by
      unfold left at hi
      rw [List.mem_filter, List.mem_range] at hi
      exact ⟨hi.1, by simpa using hi.2⟩
    refine ⟨fun h0 => ?_, fun j hj => ?_⟩
    · exfalso
      cases hL : left ops listed with
      | nil => rw [hL] at hl; cases hl
      | cons i l =>
        have hmem : i ∈ left ops listed := by rw [hL]; simp
        obtain ⟨his, hun⟩ := hunl i hmem
        have hall : ∀ k, k < i → listed.getD k false = true := by
          intro k hk
          have hks : k < ops.size := by omega
          cases hb : listed.getD k true with
          | true => simpa [Array.getD_eq_getD_getElem?, hs, hks] using hb
          | false =>
            have hkm : k ∈ left ops listed := by unfold left; rw [List.mem_filter, List.mem_range]; exact ⟨hks, by simp [hb]⟩
            have hsort : (left ops listed).Pairwise (· < ·) := List.Pairwise.sublist List.filter_sublist List.pairwise_lt_range
            rw [hL] at hkm hsort
            rcases List.mem_cons.1 hkm with e | e
            · omega
            · have := (List.pairwise_cons.1 hsort).1 k e; omega
        have : i ∈ Region.ready .any ops listed := mem_ready.2 ⟨hun, ops[i], Array.getElem?_eq_getElem his, fun e he hb => hall e.on (hdown i _ (Array.getElem?_eq_getElem his) e he hb)⟩
        rw [h0] at this
        cases this
    · obtain ⟨hjm, hja⟩ := rdy listed hs j hj
      have hjs := (hunl j hjm).1
      have hoj : ops[j]? = some ops[j] := Array.getElem?_eq_getElem hjs
      have hset : left ops (listed.setIfInBounds j true) = out j (left ops listed) := left_set hs hjs
      have hlen := out_len hnd hjm
      have hcl' := hcl.set hj
      have hlen' : (left ops (listed.setIfInBounds j true)).length = fuel := by rw [hset]; omega
      cases hjq : isQ ops j with
      | true =>
        obtain ⟨v, hy, ht⟩ := (TG_quiet hok fuel j _ hoj hjq (left ops listed) a w hl hnd (fun i hi => (hunl i hi).1) hjm hja).1 h
        have hrj : readB ops[j].op = true := by unfold isQ at hjq; rw [hoj] at hjq; exact hjq
        exact YieldsS.wpOp hoj hy hrj hC (ih _ _ w (by simpa using hs) hlen' hcl' (fun _ => hC) (by rw [hset]; exact ht))
      | false =>
        by_cases hjl : j + 1 = ops.size
        · have hj1 : ops.size - 1 = j := by omega
          rw [hj1, hjq, Bool.false_or] at hlast
          have hbehind : ∀ k, k ∈ ahead ops ops.size [j] → k = j ∨ listed.getD k false = true := ahead_spec hcl hj _ _ (by simp)
          have all : ∀ i ∈ left ops listed, i = j := fun i hi => by
            obtain ⟨his, hun⟩ := hunl i hi
            rcases hbehind i (by simpa using List.all_eq_true.1 hlast i (List.mem_range.2 his)) with e | e
            · exact e
            · simp [Array.getD_eq_getD_getElem?, hs, his] at hun e
              rw [hun] at e; cases e
          have hL : left ops listed = [j] := by
            cases hh : left ops listed with
            | nil => rw [hh] at hl; cases hl
            | cons x r =>
              rw [hh] at all hnd
              obtain rfl := all x (by simp)
              cases r with
              | nil => rfl
              | cons y s =>
                have := all y (by simp)
                subst this
                exact absurd (by simp) (List.nodup_cons.1 hnd).1
          have hf : fuel = 0 := by rw [hL] at hl; simpa using hl.symm
          subst hf
          rw [hL] at h hja
          have hnq : nextQ ops [j] = none := by simp [nextQ, hjq]
          rw [TG, hnq] at h
          have hw := h j (by simp) hja
          rw [if_pos hjl] at hw
          exact wpOp_mono (fun a' w' h' => ih _ a' w' (by simpa using hs) hlen' hcl' (fun hne => absurd rfl hne) h') hw
        · exact wpOp_of_QF (fun a' w' h' => ih _ a' w' (by simpa using hs) hlen' hcl' (fun _ => h'.1) (by rw [hset]; exact h'.2)) (TG_chain hok hoj hjq hjl fuel (left ops listed) a w hl hnd (fun i hi => (hunl i hi).1) hjm hja h)
end
section
variable {P : Program} {n : Nat} {ds : List Deferred} {Q : Po} {F : Fr} {ops : List Oper} {C : World → Prop} {w : World}
/-- The walk that parts: by frames. -/
def Wg (P : Program) (n : Nat) (ds : List Deferred) (C : World → Prop) (Q : Po) (ops : List Oper) : Nat → List Nat → Fr → World → Prop
  | 0, _, F, w => Q .normal F w
  | f + 1, l, F, w => match nextQ ops.toArray l with
    | some q => ∃ o, ops[q]? = some o ∧ Wq P n ds C (fun F' => Wg P n ds C Q ops f (out q l) F' w) ops [o] F
    | none => ∀ j ∈ l, availB ops.toArray l j = true → ∃ o, ops[j]? = some o ∧ (if j + 1 = ops.length then Wl P n ds Q ops [o] F w else Wl P n ds (fun e F' w' => e = .normal ∧ C w' ∧ Wg P n ds C Q ops f (out j l) F' w') ops [o] F w)
theorem Wg.nil {l : List Nat} (h : Q .normal F w) : Wg P n ds C Q ops 0 l F w := h
theorem Wg.quiet {f q : Nat} {l l' : List Nat} {o : Oper} (h : nextQ ops.toArray l = some q) (ho : ops[q]? = some o) (hl : out q l = l') (k : Wq P n ds C (fun F' => Wg P n ds C Q ops f l' F' w) ops [o] F) : Wg P n ds C Q ops (f + 1) l F w := by
  subst hl
  rw [Wg, h]
  exact ⟨o, ho, k⟩
theorem Wg.one {f j : Nat} {l l' : List Nat} {o : Oper} (h : nextQ ops.toArray l = none) (hr : l.filter (availB ops.toArray l) = [j]) (ho : ops[j]? = some o) (hjl : Nat.beq (j + 1) ops.length = false) (hl : out j l = l')
    (k : Wl P n ds (fun e F' w' => e = .normal ∧ C w' ∧ Wg P n ds C Q ops f l' F' w') ops [o] F w) : Wg P n ds C Q ops (f + 1) l F w := by
  subst hl
  rw [Wg, h]
  intro i hi ha
  have hm : i ∈ l.filter (availB ops.toArray l) := List.mem_filter.2 ⟨hi, ha⟩
  rw [hr] at hm
  obtain rfl : i = j := by simpa using hm
  exact ⟨o, ho, by rw [if_neg (Nat.ne_of_beq_eq_false hjl)]; exact k⟩
theorem Wg.two {f j1 j2 : Nat} {l l1 l2 : List Nat} {o1 o2 : Oper} (h : nextQ ops.toArray l = none) (hr : l.filter (availB ops.toArray l) = [j1, j2]) (ho1 : ops[j1]? = some o1) (ho2 : ops[j2]? = some o2)
    (hjl1 : Nat.beq (j1 + 1) ops.length = false) (hjl2 : Nat.beq (j2 + 1) ops.length = false) (hl1 : out j1 l = l1) (hl2 : out j2 l = l2)
    (k1 : Wl P n ds (fun e F' w' => e = .normal ∧ C w' ∧ Wg P n ds C Q ops f l1 F' w') ops [o1] F w) (k2 : Wl P n ds (fun e F' w' => e = .normal ∧ C w' ∧ Wg P n ds C Q ops f l2 F' w') ops [o2] F w) : Wg P n ds C Q ops (f + 1) l F w := by
  subst hl1
  subst hl2
  rw [Wg, h]
  intro i hi ha
  have hm : i ∈ l.filter (availB ops.toArray l) := List.mem_filter.2 ⟨hi, ha⟩
  rw [hr] at hm
  have : i = j1 ∨ i = j2 := by simpa using hm
  rcases this with rfl | rfl
  · exact ⟨o1, ho1, by rw [if_neg (Nat.ne_of_beq_eq_false hjl1)]; exact k1⟩
  · exact ⟨o2, ho2, by rw [if_neg (Nat.ne_of_beq_eq_false hjl2)]; exact k2⟩
theorem Wg.last {f j : Nat} {l : List Nat} {o : Oper} (h : nextQ ops.toArray l = none) (hr : l = [j]) (ho : ops[j]? = some o) (hjl : j + 1 = ops.length) (k : Wl P n ds Q ops [o] F w) : Wg P n ds C Q ops (f + 1) l F w := by
  rw [Wg, h]
  subst hr
  intro i hi ha
  obtain rfl : i = j := by simpa using hi
  exact ⟨o, ho, by rw [if_pos hjl]; exact k⟩
theorem TG_of_Wg : ∀ (f : Nat) (l : List Nat) (F : Fr) (w : World), Wg P n ds C Q ops f l F w → TG P ops.toArray C (QA n ds Q) f l (act n ds F) w
  | 0, l, F, w, h => ⟨F, rfl, h⟩
  | f + 1, l, F, w, h => by
    rw [TG]
    rw [Wg] at h
    cases hq : nextQ ops.toArray l with
    | some q =>
      rw [hq] at h
      obtain ⟨o, ho, h⟩ := h
      have ho' : ops.toArray[q]? = some o := by simpa using ho
      unfold Wq at h
      have hst : qOp P ops.toArray C q (fun a => ∃ F', a = act n ds F' ∧ Wg P n ds C Q ops f (out q l) F' w) (act n ds F) := by unfold qOp; simp only [ho']; exact h
      obtain ⟨v, hy, F', hF, hw⟩ := yieldsIn_of_qOp ho' hst
      refine ⟨o, v, ho', hy, ?_⟩
      rw [hF]
      exact TG_of_Wg f (out q l) F' w hw
    | none =>
      rw [hq] at h
      intro j hj ha
      obtain ⟨o, ho, h⟩ := h j hj ha
      have hsz : ops.toArray.size = ops.length := by simp
      rw [hsz]
      split
      · rename_i he
        rw [if_pos he] at h
        exact wpOp_of_Wl ho h
      · rename_i he
        rw [if_neg he] at h
        refine wpOp_noQ ?_ ?_ (wpOp_of_Wl ho h)
        · rintro e a' w' hne ⟨F', _, h', _⟩; exact hne h'
        · rintro a' w' ⟨F', rfl, _, hC, h'⟩
          exact ⟨hC, TG_of_Wg f (out j l) F' w' h'⟩
/-- A region that draws its order, by a walk that parts. -/
theorem Wc.regionG {rid m : Nat} (hm : P.follows .mixedOrders = true) (hB : okGL ops.toArray = true) (C : World → Prop) (hC : C w.drew) (hlen : ops.length = m) (h : ∀ w', New w w' → Wg P n ds C Q ops m (List.range m) F w') : Wc P n ds Q (.region rid ops.toArray true) F w := by
  subst hlen
  unfold Wc
  refine wp_region_any hm ?_
  have hleft : left ops.toArray (Array.replicate ops.toArray.size false) = List.range ops.length := by
    unfold left
    simp only [List.size_toArray]
    refine List.filter_eq_self.2 fun k hk => ?_
    have := List.mem_range.1 hk
    simp [Array.getD_eq_getD_getElem?, Array.getElem?_replicate, this]
  have h0 : Clos ops.toArray (Array.replicate ops.toArray.size false) := by
    intro j o hj
    exfalso
    simp only [Array.getD_eq_getD_getElem?, Array.getElem?_replicate] at hj
    split at hj <;> simp at hj
  refine wpAny_of_TG (C := C) hB _ _ _ _ (by simp) (by rw [hleft]; simp) h0 (fun _ => hC) ?_
  rw [hleft]
  have := TG_of_Wg ops.length (List.range ops.length) F w.drew (h _ (Chg.drew _ _))
  simpa using this
end
attribute [irreducible] Wg
end Go.Proofs.YtjpebmgllfiloaaDoor.Wk

namespace Go.Proofs.YtjpebmgllfiloaaDoor
open Go Wk
open Go.RowKit (Below)
attribute [local irreducible] Go.Calls

section
variable {P : Program} {n : Nat} {ds : List Deferred} {C : World → Prop} {K : Fr → Prop} {F : Fr} {ops rest : List Oper} {d : Nat} {ty : TypeId} {pos : String} {aft : Array Edge}
theorem Wq.sliceToP {x hi : Operand} {t e sz bytes : Nat} {agg : Bool} {z : Value} {k : IntKind} {p : Option Addr} {l cap b : Nat} [ht : Und P t (.slice e)] [he : ElT P e sz bytes agg z] (hx : ev n F x = .slice p l cap) (hh : ev n F hi = .int k b) (h1 : b ≤ cap)
    (c : Wq P n ds C K ops rest (upd F d (.slice p b cap))) : Wq P n ds C K ops (⟨some d, .slice t x none (some hi) none, ty, pos, aft, none⟩ :: rest) F :=
  Wq.val (fun w hw => by
    have := run_sliceS (P := P) (w := w) (p := p) (l := l) (lo := none) (hi := some (.int k b)) (a := 0) (b := b) ht.h he (.inl ⟨rfl, rfl⟩) (.inr ⟨k, rfl⟩) (Nat.zero_le _) h1
    have hp : (if cap = 0 then p else p.map (·.add (0 * sz))) = p := by
      split
      · rfl
      · cases p with
        | none => rfl
        | some a => simp [Addr.add]
    simp only [execOp, hx, hh, Option.map_none, Option.map_some, Sem.run_bind, this, Result.andThen_ok, Sem.run_pure, hp, Nat.sub_zero]) c
end
/-- A piece with marks behind its lists. -/
structure PcL (lo : Nat) (w : World) (r : Value) (p : Pc) (lab : Lb) (a : Option Addr) (cap : Nat) (pvs : List Sl) (da : Option Addr) (dc : Nat) : Prop where
  eq : r = .agg #[vs p.target, .slice a p.nodes.length cap, .slice da p.drop.length dc]
  tl : TrL lo lab w a cap p.nodes pvs
  dl : OwnS (one vs) 9 1 (fun b => lo ≤ b ∧ lab b = none) No w (.slice da (p.drop.length + 1) dc) (p.drop ++ [mkS])
theorem PcL.new {lo : Nat} {w w' : World} {r : Value} {p : Pc} {lab : Lb} {a : Option Addr} {cap : Nat} {pvs : List Sl} {da : Option Addr} {dc : Nat} (h : PcL lo w r p lab a cap pvs da dc) (c : New w w') : PcL lo w' r p lab a cap pvs da dc :=
  ⟨h.eq, h.tl.new c, h.dl.new (plain_one _) c⟩
theorem TrL.chg {lo : Nat} {lab : Lb} {w w' : World} {a : Option Addr} {cap : Nat} {t : List Nd} {pvs : List Sl} {M : Nat → Prop} (h : TrL lo lab w a cap t pvs) (c : Chg M w w') (hM : ∀ b, b < w.heap.size → M b → lab b = none) : TrL lo lab w' a cap t pvs := by
  have c' : Chg (fun b => M b ∧ b < w.heap.size) w w' := c.mono fun k hk e => ⟨e, hk⟩
  refine ⟨h.len, fun b q e => ⟨(h.low b q e).1, Nat.lt_of_lt_of_le (h.low b q e).2 c.size⟩, h.arr.chg (plain_flat ndV) c' (fun b hb e => by have := (h.arr.lt hb).1; rw [hM b e.2 e.1] at this; cases this), fun i x pv hx hp => ?_⟩
  obtain ⟨pa, pc, e, o⟩ := h.pr i x pv hx hp
  exact ⟨pa, pc, e, o.chg plainPr c' (fun b hb e => by have := (o.lt hb).1; rw [hM b e.2 e.1] at this; cases this)⟩
set_option maxHeartbeats 1000000 in
set_option maxRecDepth 4000 in
theorem lentPiece_spec {Pt : Nat → Prop} {w : World} {nv dv : Value} {p : Pc} (hn : RdS rNd 3 Pt w nv p.nodes) (hd : RdS (one vs) 1 Pt w dv p.drop) (hl : p.nodes.length ≤ 1500000) (hpl : ∀ x ∈ p.nodes, x.props.length ≤ 1500000) (hdl : p.drop.length ≤ 1500000) :
    Calls Tryd.prog 10 #[.agg #[vs p.target, nv, dv]] w (Ret fun r w' => (∃ lab a cap pvs da dc, PcL w.heap.size w' r p lab a cap pvs da dc) ∧ New w w') := by
  refine calls_of_Wc Tryd.func10 rfl Tryd.ntmps10 rfl ?_
  (repeat' (first | refine Wc.seq ?_ | refine Wc.region ?_))
  refine Wl.box rfl fun w1 b1 n1 s1 => ?_
  replace b1 : Bk w1 w.heap.size 25 [vs p.target, nv, dv] := b1
  skip
  refine Wl.alloc fun w2 z2 n2 s2 => ?_
  have b2 := b1.chg n2 id
  have zl2 := z2.lt
  have n02 := New.trans n1 n2
  (repeat' (first | refine Wl.nil ?_ | refine Qseq.normal ?_ | refine Wc.seq ?_ | refine Wc.region ?_ | refine Wl.fieldAddr rfl rfl ?_))
  refine Wl.load1 rfl (b2.cell (o := 1) rfl) ?_
  refine Wl.call (lent_spec (hn.keep stableNd n02.keep) hl hpl) rfl ?_
  rintro _ w3 ⟨lab, a, cap, pvs, rfl, to3, n3⟩
  have b3 := b2.chg n3 id
  have z3 := z2.chg n3 id
  have n03 := New.trans n02 n3
  have s3 := n3.size
  have hz : ∀ b, b < w2.heap.size → lab b = none := fun b hb => by
    cases hq : lab b with
    | none => rfl
    | some q => have := (to3.low b q hq).1; omega
  (repeat' (refine Wl.fieldAddr rfl rfl ?_))
  refine Wl.store1 b3 rfl (show (1 : Nat) < 3 by omega) rfl rfl fun w4 b4 c4 => ?_
  replace b4 : Bk w4 w.heap.size 25 [vs p.target, .slice a p.nodes.length cap, dv] := b4
  have z4 := z3.chg c4 (by omega)
  have n04 : New w w4 := Chg.trans n03 c4 fun b hb e => by omega
  have to4 := to3.chg c4 fun b hb e => hz b (by omega)
  have s4 := c4.size
  obtain ⟨ea, ec, rfl, hec1, hec2⟩ := hd.form
  have hb4 : ∀ w', New w4 w' → Bk w' w.heap.size 25 [vs p.target, .slice a p.nodes.length cap, .slice ea p.drop.length ec] := fun w' hw => b4.chg hw id
  have hdk : ∀ w', New w4 w' → RdS (one vs) 1 Pt w' (.slice ea p.drop.length ec) p.drop := fun w' hw => hd.keep (stable_one _) (New.trans n04 hw).keep
  (repeat' (first | refine Wl.nil ?_ | refine Qseq.normal ?_))
  refine Wc.cut (fun F w10 => ∃ (da : Option Addr) (dc : Nat) (w9 : World), agrees F [(1, ptrV w.heap.size), (2, ptrV w1.heap.size)] ∧ OwnS (one vs) 9 1 (fun b => w4.heap.size ≤ b) No w9 (.slice da (p.drop.length + 1) dc) (p.drop ++ [mkS]) ∧ New w4 w9 ∧
    Bk w10 w.heap.size 25 [vs p.target, .slice a p.nodes.length cap, .slice da p.drop.length dc] ∧ Chg (fun k => k = w.heap.size) w9 w10) ?_ ?_
  · refine Wc.regionG (m := 12) rfl (by kernel_rfl) (New w4) (Chg.drew _ _) rfl ?_
    intro w5 n5
    have s5 := n5.size
    (repeat' (refine Wg.quiet rfl rfl rfl (Wq.fieldAddr rfl rfl (Wq.nil ?_))))
    refine Wg.quiet rfl rfl rfl (Wq.load1 rfl (fun w' hw => (hb4 w' hw).cell (o := 2) rfl) (Wq.nil ?_))
    (repeat' (refine Wg.quiet rfl rfl rfl (Wq.fieldAddr rfl rfl (Wq.nil ?_))))
    refine Wg.quiet rfl rfl rfl (Wq.load1 rfl (fun w' hw => (hb4 w' hw).cell (o := 2) rfl) (Wq.nil ?_))
    (repeat' (refine Wg.quiet rfl rfl rfl (Wq.lenS rfl (Wq.nil ?_))))
    refine Wg.two rfl rfl rfl rfl rfl rfl rfl rfl (Wl.buildSliceE fun w6 hg6 n6 => Wl.nil ⟨rfl, New.trans n5 n6, ?_⟩) (Wl.buildSlice1 (R := one vs) (y := mkS) (Pe := No) (good_one _ fun _ => rfl) rfl rfl rfl rfl (by omega) (by omega) fun mv w6 oM n6 s6' hob6 => Wl.nil ⟨rfl, New.trans n5 n6, ?_⟩)
    · have n46 := New.trans n5 n6
      have s6 := n6.size
      refine Wg.two rfl rfl rfl rfl rfl rfl rfl rfl
        (Wl.appendZ (Pe := No) (good_one vs fun _ => rfl) hg6 (hdk w6 n46) (fun y cs hy => hy) rfl rfl (by omega) (by simp only [maxLen]; omega) (by omega) fun dv' w7 oD n7 => Wl.nil ⟨rfl, New.trans n46 n7, ?_⟩)
        (Wl.buildSlice1 (R := one vs) (y := mkS) (Pe := No) (good_one _ fun _ => rfl) rfl rfl rfl rfl (by omega) (by omega) fun mv w7 oM n7 s7' hob7 => Wl.nil ⟨rfl, New.trans n46 n7, ?_⟩)
      · have n47 := New.trans n46 n7
        have s7 := n7.size
        refine Wg.one rfl rfl rfl rfl rfl (Wl.buildSlice1 (R := one vs) (y := mkS) (Pe := No) (good_one _ fun _ => rfl) rfl rfl rfl rfl (by omega) (by omega) fun mv w8 oM n8 s8' hob8 => Wl.nil ⟨rfl, New.trans n47 n8, ?_⟩)
        have nD := New.trans n47 n8
        have s8 := n8.size
        replace oD := oD.new (plain_one _) n8
        refine Wg.one rfl rfl rfl rfl rfl (Wl.appendAll (R := one vs) (Pe := No) (good_one _ fun _ => rfl) oD (oM.rd (mono_one _)) (fun y cs hy => hy) rfl rfl (by omega) (by simp only [maxLen, List.length_singleton]; omega) (by simp only [List.length_singleton]; omega) fun dv9 w9 o9 c9 lie9 _ => ?_)
        have n49 : New w4 w9 := Chg.trans nD c9 (fun b hb e => by have := (oD.lt e).1; omega)
        refine Wl.nil ⟨rfl, n49, ?_⟩
        have s9 := nD.size
        obtain ⟨da, dc, rfl, hdc, _⟩ := o9.form
        rw [List.length_append, List.length_singleton] at hdc o9 ⊢
        refine Wg.quiet rfl rfl rfl (Wq.sliceToP (b := p.drop.length) rfl rfl (by omega) (Wq.nil ?_))
        (repeat' (refine Wg.quiet rfl rfl rfl (Wq.fieldAddr rfl rfl (Wq.nil ?_))))
        refine Wg.last rfl rfl rfl rfl (Wl.store1 (hb4 w9 n49) rfl (show (2 : Nat) < 3 by omega) rfl rfl fun w10 b10 c10 => ?_)
        exact Wl.nil ⟨rfl, da, dc, w9, ⟨rfl, rfl, trivial⟩, o9.mono (mono_one _) (fun b hb e => by rcases e with e | e <;> omega) (fun _ _ e => e), n49, b10, c10⟩
      · have n47 := New.trans n46 n7
        have s7 := n7.size
        refine Wg.one rfl rfl rfl rfl rfl (Wl.appendZ (Pe := No) (good_one vs fun _ => rfl) ((n7.block _ (by have := heap_lt hg6; omega) id).trans hg6) (hdk w7 n47) (fun y cs hy => hy) rfl rfl (by omega) (by simp only [maxLen]; omega) (by omega) fun dv' w8 oD n8 => Wl.nil ⟨rfl, New.trans n47 n8, ?_⟩)
        have nD := New.trans n47 n8
        have s8 := n8.size
        replace oM := oM.new (plain_one _) n8
        refine Wg.one rfl rfl rfl rfl rfl (Wl.appendAll (R := one vs) (Pe := No) (good_one _ fun _ => rfl) oD (oM.rd (mono_one _)) (fun y cs hy => hy) rfl rfl (by omega) (by simp only [maxLen, List.length_singleton]; omega) (by simp only [List.length_singleton]; omega) fun dv9 w9 o9 c9 lie9 _ => ?_)
        have n49 : New w4 w9 := Chg.trans nD c9 (fun b hb e => by have := (oD.lt e).1; omega)
        refine Wl.nil ⟨rfl, n49, ?_⟩
        have s9 := nD.size
        obtain ⟨da, dc, rfl, hdc, _⟩ := o9.form
        rw [List.length_append, List.length_singleton] at hdc o9 ⊢
        refine Wg.quiet rfl rfl rfl (Wq.sliceToP (b := p.drop.length) rfl rfl (by omega) (Wq.nil ?_))
        (repeat' (refine Wg.quiet rfl rfl rfl (Wq.fieldAddr rfl rfl (Wq.nil ?_))))
        refine Wg.last rfl rfl rfl rfl (Wl.store1 (hb4 w9 n49) rfl (show (2 : Nat) < 3 by omega) rfl rfl fun w10 b10 c10 => ?_)
        exact Wl.nil ⟨rfl, da, dc, w9, ⟨rfl, rfl, trivial⟩, o9.mono (mono_one _) (fun b hb e => by rcases e with e | e <;> omega) (fun _ _ e => e), n49, b10, c10⟩
    · have n46 := New.trans n5 n6
      have s6 := n6.size
      refine Wg.one rfl rfl rfl rfl rfl (Wl.buildSliceE fun w7 hg7 n7 => Wl.nil ⟨rfl, New.trans n46 n7, ?_⟩)
      have n47 := New.trans n46 n7
      have s7 := n7.size
      refine Wg.one rfl rfl rfl rfl rfl (Wl.appendZ (Pe := No) (good_one vs fun _ => rfl) hg7 (hdk w7 n47) (fun y cs hy => hy) rfl rfl (by omega) (by simp only [maxLen]; omega) (by omega) fun dv' w8 oD n8 => Wl.nil ⟨rfl, New.trans n47 n8, ?_⟩)
      have nD := New.trans n47 n8
      have s8 := n8.size
      replace oM := oM.new (plain_one _) (New.trans n7 n8)
      refine Wg.one rfl rfl rfl rfl rfl (Wl.appendAll (R := one vs) (Pe := No) (good_one _ fun _ => rfl) oD (oM.rd (mono_one _)) (fun y cs hy => hy) rfl rfl (by omega) (by simp only [maxLen, List.length_singleton]; omega) (by simp only [List.length_singleton]; omega) fun dv9 w9 o9 c9 lie9 _ => ?_)
      have n49 : New w4 w9 := Chg.trans nD c9 (fun b hb e => by have := (oD.lt e).1; omega)
      refine Wl.nil ⟨rfl, n49, ?_⟩
      have s9 := nD.size
      obtain ⟨da, dc, rfl, hdc, _⟩ := o9.form
      rw [List.length_append, List.length_singleton] at hdc o9 ⊢
      refine Wg.quiet rfl rfl rfl (Wq.sliceToP (b := p.drop.length) rfl rfl (by omega) (Wq.nil ?_))
      (repeat' (refine Wg.quiet rfl rfl rfl (Wq.fieldAddr rfl rfl (Wq.nil ?_))))
      refine Wg.last rfl rfl rfl rfl (Wl.store1 (hb4 w9 n49) rfl (show (2 : Nat) < 3 by omega) rfl rfl fun w10 b10 c10 => ?_)
      exact Wl.nil ⟨rfl, da, dc, w9, ⟨rfl, rfl, trivial⟩, o9.mono (mono_one _) (fun b hb e => by rcases e with e | e <;> omega) (fun _ _ e => e), n49, b10, c10⟩
  · rintro F w10 ⟨da, dc, w9, hF, o9, n9, b10, c10⟩
    rw [← upds_of_agrees hF]
    simp only [upds]
    have n09 := New.trans n04 n9
    have z9 := z4.chg n9 id
    have to9 := to4.new n9
    have hz9 : ∀ b, b < w9.heap.size → b = w.heap.size → lab b = none := fun b _ e => hz b (by omega)
    have z10 := z9.chg c10 (by omega)
    have to10 := to9.chg c10 hz9
    have o10 := o9.chg (plain_one _) c10 fun b hb e => by have := (o9.lt hb).1; omega
    have s9 := n9.size
    have n010 : New w w10 := Chg.trans n09 c10 fun b hb e => by omega
    (repeat' (first | refine Wc.seq ?_ | refine Wc.region ?_))
    refine Wl.loadB b10 rfl rfl ?_
    skip
    refine Wl.storeB (new := [vs p.target, .slice a p.nodes.length cap, .slice da p.drop.length dc]) z10 rfl rfl rfl rfl (show (3 : Nat) ≤ 3 from Nat.le_refl 3) (by intro c hc; simp at hc; rcases hc with rfl | rfl | rfl <;> rfl) fun w11 z11 c11 s11 => ?_
    replace z11 : Bk w11 w1.heap.size 25 [vs p.target, .slice a p.nodes.length cap, .slice da p.drop.length dc] := z11
    (repeat' (first | refine Wl.nil ?_ | refine Qseq.normal ?_ | refine Wc.ret ?_))
    refine Qfn.retCell rfl rfl rfl z11 rfl ⟨_, rfl, ⟨lab, a, cap, pvs, da, dc, rfl, ?_, ?_⟩, Chg.trans n010 c11 fun b hb e => by omega⟩
    · have h := to10.chg c11 fun b hb e => hz b (by omega)
      exact ⟨h.len, fun b c e => ⟨by have := (h.low b c e).1; omega, (h.low b c e).2⟩, h.arr, h.pr⟩
    · have h := o10.chg (plain_one _) c11 (fun b hb e => by have := (o10.lt hb).1; omega)
      refine h.reblk fun b hb e => ⟨by omega, ?_⟩
      cases hq : lab b with
      | none => rfl
      | some q => have := (to4.low b q hq).2; omega
end Go.Proofs.YtjpebmgllfiloaaDoor

namespace Go.Proofs.YtjpebmgllfiloaaDoor
open Go Wk
open Go.RowKit (Below)
attribute [local irreducible] Go.Calls

section
variable {P : Program} {n : Nat} {ds : List Deferred} {C : World → Prop} {K : Fr → Prop} {F : Fr} {ops rest : List Oper} {d : Nat} {ty t t' : TypeId} {pos : String} {aft : Array Edge}
theorem Wq.sneqSame {x y : Operand} {a : List UInt8} (hx : ev n F x = vs a) (hy : ev n F y = vs a) (h : Wq P n ds C K ops rest (upd F d (.bool false))) : Wq P n ds C K ops (⟨some d, .binOp .neq t x y t', ty, pos, aft, none⟩ :: rest) F :=
  Wq.sneq hx hy (fun e => absurd rfl e) fun _ => h
end
theorem mk_get {t : List Nd} {pvs : List Sl} (h : pvs.length = t.length) : (t.zip pvs ++ [mkN])[((t.length : Int)).toNat]? = some mkN := by
  rw [Int.toNat_natCast, List.getElem?_append_right (by simp [h])]
  simp [h]
set_option maxHeartbeats 1000000 in
set_option maxRecDepth 4000 in
theorem kept_spec {Pt : Nat → Prop} {lo : Nat} {lab : Lb} {w : World} {a : Option Addr} {cap : Nat} {t : List Nd} {pvs : List Sl} {tv : Value} (hx : TrL lo lab w a cap t pvs) (ht : RdS rNd 3 Pt w tv t) (hs : Short t) :
    Calls Tryd.prog 15 #[.slice a t.length cap, tv] w (Ret fun r w' => r = .bool true ∧ New w w') := by
  obtain ⟨ta, tc, rfl, htc1, htc2⟩ := ht.form
  simp only [maxLen] at htc2
  have hzl : (t.zip pvs ++ [mkN]).length = t.length + 1 := by simp [hx.len]
  obtain ⟨a', cap', e, hcap, hcm⟩ := hx.arr.form
  simp only [Value.slice.injEq] at e
  obtain ⟨rfl, _, rfl⟩ := e
  rw [hzl] at hcap
  simp only [maxLen] at hcm
  refine calls_of_Wc Tryd.func15 rfl Tryd.ntmps15 rfl ?_
  (repeat' (first | refine Wl.moveE (by conv => { lhs; whnf }) ?_ | refine Wl.assignE (by conv => { lhs; whnf }) ?_ | refine Wl.nil ?_ | refine Qseq.normal ?_ | refine Wc.seq ?_ | refine Wc.region ?_))
  refine Wl.call (Same_spec hx.own.rd ht hs) rfl ?_
  rintro _ w1 ⟨rfl, n1⟩
  have hx1 := hx.new n1
  have ht1 := ht.keep stableNd n1.keep
  have hz1 := hx1.arr.rd (mono_flat ndV)
  (repeat' (first | refine Wl.moveE (by conv => { lhs; whnf }) ?_ | refine Wl.guardY rfl rfl ?_ | refine Wl.notB rfl ?_ | refine Wl.lenS rfl ?_ | refine Wl.add rfl rfl (by omega) (by omega) ?_))
  refine Wl.sliceToP (b := t.length + 1) rfl rfl (by omega) ?_
  (repeat' (first | refine Wl.moveE (by conv => { lhs; whnf }) ?_ | refine Wl.guardY rfl rfl ?_ | refine Wl.lenS rfl ?_))
  refine Wl.idxAddr hz1 rfl rfl (by omega) (mk_get hx1.len) fun b o cs hl hR hat => ?_
  obtain rfl : cs = ndV mkN := hR
  (repeat' (first | refine Wl.guardY rfl rfl ?_ | refine Wl.fieldAddr rfl rfl ?_))
  refine Wl.load1 rfl (hat.get 1 rfl) ?_
  (try refine Wl.guardY rfl rfl ?_)
  refine Wl.sneqSame (a := mkS) rfl rfl ?_
  clear hat
  (repeat' (first | refine Wl.assignE (by conv => { lhs; whnf }) ?_ | refine Wl.nil ?_ | refine Wl.pickFE rfl (by conv => { lhs; whnf }) ?_ | refine Qseq.normal ?_ | refine Wc.seq ?_ | refine Wc.region ?_ | refine Wc.block ?_ | refine Wc.skip ?_ | refine Wc.condF rfl ?_))
  refine Wc.loop (σ := Nat) (fun i => [(0, .slice a t.length cap), (1, .slice ta t.length tc), (5, vi i)]) (fun i w' => i ≤ t.length ∧ w' = w1) (fun i => t.length - i) 0 ⟨rfl, rfl, rfl, trivial⟩ ⟨Nat.zero_le _, rfl⟩ ?_
  rintro i G _ ⟨hi, rfl⟩
  simp only [upds]
  (repeat' (first | refine Wl.moveE (by conv => { lhs; whnf }) ?_ | refine Wl.assignE (by conv => { lhs; whnf }) ?_ | refine Wl.nil ?_ | refine Wl.lenS rfl ?_ | refine Qseq.normal ?_ | refine Wc.seq ?_ | refine Wc.region ?_ | refine Wc.block ?_ | refine Wc.skip ?_ | refine Wc.exit ?_ | refine Wc.ret ?_ | refine Qseq.exit ?_ | refine Qblk.hit ?_ | refine Qloop.exit ?_ | refine Wc.condT rfl ?_ | refine Wc.condF rfl ?_ | refine Wl.lss rfl rfl (fun _ => ?_) (fun _ => ?_)))
  · obtain ⟨x, hxi⟩ := get_lt t (k := i) (by omega)
    obtain ⟨pv, hpv⟩ := get_lt pvs (k := i) (by rw [hx.len]; omega)
    refine Wl.idxAddr ht1 rfl rfl (by omega) hxi fun b o cs hl hR hat => ?_
    obtain ⟨xv, rfl, hxr⟩ := hR
    obtain ⟨xa, xc, rfl, hxc1, hxc2⟩ := hxr.form
    simp only [maxLen] at hxc2
    (repeat' (refine Wl.fieldAddr rfl rfl ?_))
    refine Wl.load1 rfl (hat.get 2 rfl) ?_
    clear hat
    (repeat' (first | refine Wl.moveE (by conv => { lhs; whnf }) ?_ | refine Wl.assignE (by conv => { lhs; whnf }) ?_ | refine Wl.nil ?_ | refine Wl.lenS rfl ?_ | refine Qseq.normal ?_ | refine Wc.seq ?_ | refine Wc.region ?_))
    obtain ⟨pa, pc, rfl, ho⟩ := hx1.pr i x pv hxi hpv
    have hz : (t.zip pvs ++ [mkN])[((i : Int)).toNat]? = some (x, (pa, x.props.length, pc)) := by
      rw [Int.toNat_natCast, List.getElem?_append_left (by simp [hx.len]; omega), List.getElem?_zip_eq_some]
      exact ⟨hxi, hpv⟩
    obtain ⟨pa', pc', e, hpc, hpm⟩ := ho.form
    simp only [Value.slice.injEq] at e
    obtain ⟨rfl, _, rfl⟩ := e
    rw [List.length_append, List.length_singleton] at hpc
    simp only [maxLen] at hpm
    have hmp : (x.props ++ [mkP])[((x.props.length : Int)).toNat]? = some mkP := by
      rw [Int.toNat_natCast, List.getElem?_append_right (Nat.le_refl _)]
      simp
    refine Wl.idxAddr (hz1.take (m := t.length) (by simp [hx.len]) rfl) rfl rfl (by omega) (y := (x, (pa, x.props.length, pc))) (by rw [Int.toNat_natCast] at hz ⊢; rw [List.getElem?_take, if_pos (by omega)]; exact hz) fun b o cs hl hR hat => ?_
    obtain rfl : cs = ndV (x, _) := hR
    (repeat' (refine Wl.fieldAddr rfl rfl ?_))
    refine Wl.load1 rfl (hat.get 2 rfl) ?_
    clear hat
    (repeat' (first | refine Wl.moveE (by conv => { lhs; whnf }) ?_ | refine Wl.add rfl rfl (by omega) (by omega) ?_))
    refine Wl.sliceToP (b := x.props.length + 1) rfl rfl (by omega) ?_
    (repeat' (refine Wl.moveE (by conv => { lhs; whnf }) ?_))
    refine Wl.idxAddr (ho.rd (mono_flat pC)) rfl rfl (by omega) hmp fun b o cs hl hR hat => ?_
    obtain rfl : cs = pC mkP := hR
    (repeat' (refine Wl.fieldAddr rfl rfl ?_))
    refine Wl.load1 rfl (hat.get 0 rfl) ?_
    (try refine Wl.guardY rfl rfl ?_)
    refine Wl.sneqSame (a := mkS) rfl rfl ?_
    clear hat
    (repeat' (first | refine Wl.moveE (by conv => { lhs; whnf }) ?_ | refine Wl.assignE (by conv => { lhs; whnf }) ?_ | refine Wl.nil ?_ | refine Qseq.normal ?_ | refine Wc.region ?_ | refine Wc.skip ?_ | refine Qblk.normal ?_ | refine Wc.condF rfl ?_ | refine Wl.add rfl rfl (by omega) (by omega) ?_))
    exact Qloop.normal (i + 1) ⟨rfl, rfl, rfl, trivial⟩ ⟨by omega, rfl⟩ (by omega)
  · exact Qfn.ret1 rfl rfl ⟨_, rfl, rfl, n1⟩
set_option maxHeartbeats 1000000 in
set_option maxRecDepth 4000 in
theorem keptPiece_spec {Pt : Nat → Prop} {lo : Nat} {w : World} {r : Value} {p : Pc} {lab : Lb} {a : Option Addr} {cap : Nat} {pvs : List Sl} {da : Option Addr} {dc : Nat} {nv dv : Value}
    (hp : PcL lo w r p lab a cap pvs da dc) (hn : RdS rNd 3 Pt w nv p.nodes) (hd : RdS (one vs) 1 Pt w dv p.drop) (hs : Short p.nodes) :
    Calls Tryd.prog 16 #[r, .agg #[vs p.target, nv, dv]] w (Ret fun r w' => r = .bool true ∧ New w w') := by
  obtain ⟨na, nc, rfl, hnc1, hnc2⟩ := hn.form
  obtain ⟨ea, ec, rfl, hec1, hec2⟩ := hd.form
  obtain rfl := hp.eq
  have hl := hp.dl
  obtain ⟨da', dc', e, hcap, hcm⟩ := hl.form
  simp only [Value.slice.injEq] at e
  obtain ⟨rfl, _, rfl⟩ := e
  rw [List.length_append, List.length_singleton] at hcap
  simp only [maxLen] at hcm hec2 hnc2
  refine calls_of_Wc Tryd.func16 rfl Tryd.ntmps16 rfl ?_
  (repeat' (first | refine Wc.seq ?_ | refine Wc.region ?_))
  refine Wl.box rfl fun w1 b1 n1 s1 => ?_
  replace b1 : Bk w1 w.heap.size 25 [vs p.target, .slice a p.nodes.length cap, .slice da p.drop.length dc] := b1
  skip
  refine Wl.box rfl fun w2 b2 n2 s2 => ?_
  replace b2 : Bk w2 w1.heap.size 25 [vs p.target, .slice na p.nodes.length nc, .slice ea p.drop.length ec] := b2
  replace b1 := b1.chg n2 id
  have n02 := New.trans n1 n2
  (repeat' (first | refine Wl.assignE (by conv => { lhs; whnf }) ?_ | refine Wl.nil ?_ | refine Qseq.normal ?_ | refine Wc.seq ?_ | refine Wc.region ?_ | refine Wl.fieldAddr rfl rfl ?_))
  refine Wl.load1 rfl (b2.cell (o := 2) rfl) ?_
  (repeat' (first | refine Wl.assignE (by conv => { lhs; whnf }) ?_ | refine Wl.nil ?_ | refine Wl.lenS rfl ?_ | refine Qseq.normal ?_ | refine Wc.seq ?_ | refine Wc.region ?_ | refine Wl.fieldAddr rfl rfl ?_))
  refine Wl.load1 rfl (b1.cell (o := 0) rfl) ?_
  (repeat' (refine Wl.fieldAddr rfl rfl ?_))
  refine Wl.load1 rfl (b2.cell (o := 0) rfl) ?_
  refine Wl.sneqSame (a := p.target) rfl rfl ?_
  (repeat' (first | refine Wl.moveE (by conv => { lhs; whnf }) ?_ | refine Wl.guardY rfl rfl ?_ | refine Wl.fieldAddr rfl rfl ?_))
  refine Wl.load1 rfl (b1.cell (o := 2) rfl) ?_
  (repeat' (first | refine Wl.moveE (by conv => { lhs; whnf }) ?_ | refine Wl.guardY rfl rfl ?_ | refine Wl.pickFE rfl (by conv => { lhs; whnf }) ?_ | refine Wl.lenS rfl ?_ | refine Wl.fieldAddr rfl rfl ?_ | (refine Wl.neq rfl rfl (fun _ => ?_) (fun _ => ?_) <;> (first | (exfalso; omega) | skip))))
  refine Wl.load1 rfl (b1.cell (o := 1) rfl) ?_
  (repeat' (first | refine Wl.guardY rfl rfl ?_ | refine Wl.fieldAddr rfl rfl ?_))
  refine Wl.load1 rfl (b2.cell (o := 1) rfl) ?_
  (try refine Wl.guardY rfl rfl ?_)
  refine Wl.call (kept_spec (hp.tl.new n02) (hn.keep stableNd n02.keep) hs) rfl ?_
  rintro _ w3 ⟨rfl, n3⟩
  replace b1 := b1.chg n3 id
  replace b2 := b2.chg n3 id
  have n03 := New.trans n02 n3
  have hl3 := hl.new (plain_one _) n03
  have hd3 := hd.keep (stable_one _) n03.keep
  have hmk : (p.drop ++ [mkS])[((p.drop.length : Int)).toNat]? = some mkS := by
    rw [Int.toNat_natCast, List.getElem?_append_right (Nat.le_refl _)]
    simp
  (repeat' (first | refine Wl.moveE (by conv => { lhs; whnf }) ?_ | refine Wl.guardY rfl rfl ?_ | refine Wl.pickFE rfl (by conv => { lhs; whnf }) ?_ | refine Wl.notB rfl ?_ | refine Wl.fieldAddr rfl rfl ?_))
  refine Wl.load1 rfl (b1.cell (o := 2) rfl) ?_
  (repeat' (first | refine Wl.moveE (by conv => { lhs; whnf }) ?_ | refine Wl.guardY rfl rfl ?_ | refine Wl.add rfl rfl (by omega) (by omega) ?_))
  refine Wl.sliceToP (b := p.drop.length + 1) rfl rfl (by omega) ?_
  (repeat' (first | refine Wl.moveE (by conv => { lhs; whnf }) ?_ | refine Wl.guardY rfl rfl ?_))
  refine Wl.idxAddr (hl3.rd (mono_one _)) rfl rfl (by omega) hmk fun b o cs hl hR hat => ?_
  obtain rfl : cs = [vs mkS] := hR
  (try refine Wl.guardY rfl rfl ?_)
  refine Wl.load1 rfl (hat.get 0 rfl) ?_
  (try refine Wl.guardY rfl rfl ?_)
  refine Wl.sneqSame (a := mkS) rfl rfl ?_
  clear hat
  (repeat' (first | refine Wl.assignE (by conv => { lhs; whnf }) ?_ | refine Wl.nil ?_ | refine Wl.pickFE rfl (by conv => { lhs; whnf }) ?_ | refine Qseq.normal ?_ | refine Wc.seq ?_ | refine Wc.region ?_ | refine Wc.block ?_ | refine Wc.skip ?_ | refine Wc.condF rfl ?_))
  refine Wc.loop (σ := Nat) (fun i => [(2, ptrV w.heap.size), (3, ptrV w1.heap.size), (5, vi p.drop.length), (6, vi i)]) (fun i w' => i ≤ p.drop.length ∧ New w3 w') (fun i => p.drop.length - i) 0 ⟨rfl, rfl, rfl, rfl, trivial⟩ ⟨Nat.zero_le _, Chg.refl _ _⟩ ?_
  rintro i G w4 ⟨hi, n4⟩
  have b14 := b1.chg n4 id
  have b24 := b2.chg n4 id
  have hd4 := hd3.keep (stable_one _) n4.keep
  have hl4 := (own_short (hl3.new (plain_one _) n4) rfl).rd (mono_one _)
  simp only [upds]
  (repeat' (first | refine Wl.moveE (by conv => { lhs; whnf }) ?_ | refine Wl.assignE (by conv => { lhs; whnf }) ?_ | refine Wl.nil ?_ | refine Qseq.normal ?_ | refine Wc.seq ?_ | refine Wc.region ?_ | refine Wc.block ?_ | refine Wc.skip ?_ | refine Wc.exit ?_ | refine Wc.ret ?_ | refine Qseq.exit ?_ | refine Qblk.hit ?_ | refine Qloop.exit ?_ | refine Wc.condT rfl ?_ | refine Wc.condF rfl ?_ | refine Wl.lss rfl rfl (fun _ => ?_) (fun _ => ?_)))
  · obtain ⟨s, hsi⟩ := get_lt p.drop (k := i) (by omega)
    refine Wc.regionN rfl (by kernel_rfl) ?_
    (repeat' (refine Wq.fieldAddr rfl rfl ?_))
    refine Wq.load1 rfl (fun w' hw => (b14.chg hw id).cell (o := 2) rfl) ?_
    (repeat' (refine Wq.moveE (by conv => { lhs; whnf }) ?_))
    refine Wq.idxAddrV hl4 (fun w' hw => New.keep hw) rfl rfl (by omega) hsi fun b o hat => ?_
    refine Wq.load1 rfl hat ?_
    clear hat
    (repeat' (refine Wq.fieldAddr rfl rfl ?_))
    refine Wq.load1 rfl (fun w' hw => (b24.chg hw id).cell (o := 2) rfl) ?_
    (repeat' (refine Wq.moveE (by conv => { lhs; whnf }) ?_))
    refine Wq.idxAddrV hd4 (fun w' hw => New.keep hw) rfl rfl (by omega) hsi fun b o hat => ?_
    refine Wq.load1 rfl hat ?_
    clear hat
    refine Wq.sneqSame (a := s) rfl rfl ?_
    (repeat' (refine Wq.nil ?_))
    intro w5 n5
    (repeat' (first | refine Wl.moveE (by conv => { lhs; whnf }) ?_ | refine Wl.assignE (by conv => { lhs; whnf }) ?_ | refine Wl.nil ?_ | refine Qseq.normal ?_ | refine Wc.region ?_ | refine Wc.skip ?_ | refine Qblk.normal ?_ | refine Wc.condF rfl ?_ | refine Wl.add rfl rfl (by omega) (by omega) ?_))
    exact Qloop.normal (i + 1) ⟨rfl, rfl, rfl, rfl, trivial⟩ ⟨by omega, New.trans n4 n5⟩ (by omega)
  · exact Qfn.ret1 rfl rfl ⟨_, rfl, rfl, New.trans n03 n4⟩
end Go.Proofs.YtjpebmgllfiloaaDoor

namespace Go.Proofs.YtjpebmgllfiloaaDoor.Wk
open Go Go.RowKit

section
variable {α : Type} {R : Rel α} {Pb Pe : Nat → Prop} {xs : List α}
variable {P : Program} {n : Nat} {ds : List Deferred} {Q : Po} {F : Fr} {w w' : World} {ops rest : List Oper} {d d1 d2 : Nat} {ty ty1 ty2 : TypeId} {pos pos1 pos2 : String} {aft aft1 aft2 : Array Edge}
theorem weak {w w' : World} {v v' : Value} {m k : Nat} (h : (∃ p cap, v = .slice p m cap ∧ v' = .slice p (m + k) cap) ∨ New w w' ∧ ∀ b, v'.ownBlock = some b → w.heap.size ≤ b) : v'.ownBlock = v.ownBlock ∨ ∀ b, v'.ownBlock = some b → w.heap.size ≤ b := by
  rcases h with ⟨p, cap, rfl, rfl⟩ | h
  · left; cases p <;> rfl
  · exact .inr h.2
theorem run_append_k (t ty e : TypeId) {sz bytes : Nat} {agg : Bool} {z : Value} (ht : P.underlying t = some (.slice e)) (he : ElT P e sz bytes agg z) (hsz : 0 < sz)
    {Pb : Nat → Prop} {v : Value} {m : Nat} {cs : List Value} (hown : OwnC Pb w e sz v m cs)
    (a : Addr) (k c : Nat) (news : List Value) (hl : news.length = k * sz) (hnews : ∀ j u, news[j]? = some u → w.cell? (a.add j) = some u) (h1 : ∀ u ∈ news, u.oneCell' = true)
    (h63 : m + k ≤ maxLen) (hby : (m + k) * bytes ≤ 140737488355328) :
    ∃ v' w', (Builtin.append_ #[t, t] ty #[v, .slice (some a) k c]).run P w = .ok v' w' ∧ OwnC (fun b => Pb b ∨ w.heap.size ≤ b) w' e sz v' (m + k) (cs ++ news) ∧ Chg (fun b => v.ownBlock = some b) w w' ∧
      ((∃ p cap, v = .slice p m cap ∧ v' = .slice p (m + k) cap) ∨ New w w' ∧ ∀ b, v'.ownBlock = some b → w.heap.size ≤ b) := by
  obtain ⟨i, hi, hsz', hby', hz'⟩ := he.inf
  have hz := he.hz
  subst hsz'
  subst hby'
  have hsmall : m + k ≤ 9223372036854775807 := by simp only [maxLen] at h63; omega
  have hlen : (cs ++ news).length = (m + k) * i.size := by rw [List.length_append, hown.1, hl, Nat.add_mul]
  have grown : ∀ (old : Nat), old < m + k →
      OwnC (fun b => Pb b ∨ w.heap.size ≤ b) (w.drew.alloc (.cells (cs.toArray ++ news.toArray ++ Builtin.zeroCells z.cells (grownCap w (m + k) old e - (m + k))) e)) e i.size
        (.slice (some ⟨w.heap.size, 0, none⟩) (m + k) (grownCap w (m + k) old e)) (m + k) (cs ++ news) := by
    intro old ho
    have hge := grownCap_ge w (m + k) old e
    have hcm : grownCap w (m + k) old e ≤ maxLen := grownCap_le_maxLen w (m + k) old e h63
    refine ⟨hlen, .inr ⟨w.heap.size, _, _, rfl, .inr (Nat.le_refl _), heap_alloc_new w.drew _, hge, hcm, ?_, ?_⟩⟩
    · simp only [Array.size_append, List.size_toArray, size_zeroCells, hz, hown.1, hl, ← Nat.add_mul]
      congr 1
      omega
    · simp only [Array.toList_append, List.append_assoc]
      rw [← List.append_assoc, ← hlen]
      exact List.take_left
  have chg : ∀ M o, Chg M w (w.drew.alloc o) := fun M o => ⟨rfl, rfl, rfl, by simp, fun k hk _ => World.heap_old w.drew o hk⟩
  rcases hown.2 with ⟨rfl, rfl⟩ | ⟨g, cap, cur, rfl, hbg, hg, hnc, hcm, hcs, htake⟩
  · have hx : cs = [] := List.eq_nil_of_length_eq_zero (by simpa using hown.1)
    subst hx
    by_cases hm : k = 0
    · subst hm
      have hn : news = [] := List.eq_nil_of_length_eq_zero (by simpa using hl)
      subst hn
      refine ⟨.slice none 0 0, w, ?_, ⟨by simp, .inl ⟨rfl, rfl⟩⟩, Chg.refl _ _, .inl ⟨none, 0, rfl, rfl⟩⟩
      simp [Builtin.append_, run_underlying ht, sizeOf, typeInfo, hi, Builtin.lenOf, Builtin.firstCells, loadCells, loadCellsFrom]
    · have hr := run_append_nil (P := P) w t ty e i z ht hi hz' a k c news hl hnews (by omega) (by omega) (by have hb := hby; simp only [Nat.zero_add] at hb; omega)
      have hgr := grown 0 (by omega)
      simp only [Nat.zero_add, List.nil_append, Array.empty_append] at hgr ⊢
      exact ⟨_, _, hr, hgr, chg _ _, .inr ⟨chg _ _, fun b hb => by simp only [Value.ownBlock, Option.some.injEq] at hb; omega⟩⟩
  · by_cases hroom : m + k ≤ cap
    · have hfit : m * i.size + news.length ≤ cur.size := by rw [hl, hcs, ← Nat.add_mul]; exact Nat.mul_le_mul_right _ hroom
      have hr := run_append_room (P := P) w t ty e i ht hi g m cap cur hg a k c news hl hnews h1 hroom hfit
      refine ⟨_, _, hr, ⟨hlen, .inr ⟨g, cap, _, rfl, .inl hbg, setRow_heap w g cur _ e _ hg, hroom, hcm, ?_, ?_⟩⟩, Chg.setRow rfl, .inl ⟨_, _, rfl, rfl⟩⟩
      · simp only [List.size_toArray, List.length_append, List.length_take, List.length_drop, Array.length_toList]
        omega
      · rw [htake, ← hlen]
        exact List.take_left
    · have holds : ∀ j u, cs[j]? = some u → w.cell? ((⟨g, 0, none⟩ : Addr).add j) = some u := by
        intro j u hu
        rw [addr_add, Nat.zero_add]
        simp only [World.cell?, hg]
        rw [← htake, List.getElem?_take] at hu
        split at hu
        · simpa using hu
        · cases hu
      have hr := run_append_grow (P := P) w t ty e i z ht hi hz' ⟨g, 0, none⟩ m cap cs hown.1 holds a k c news hl hnews (by omega) (by omega) (growslice_fits (by omega) hby)
      exact ⟨_, _, hr, grown cap (by omega), chg _ _, .inr ⟨chg _ _, fun b hb => by simp only [Value.ownBlock, Option.some.injEq] at hb; omega⟩⟩
theorem Wl.append1K {x s : Operand} {t e : TypeId} {sz bytes : Nat} {agg : Bool} {z v u : Value} {y : α} {cs : List Value} (hR : GoodR R sz)
    (hown : OwnS R e sz Pb Pe w v xs) [ht : Und P t (.slice e)] [he : ElT P e sz bytes agg z] (hs : ev n F s = v) (hx : ev n F x = u) (hcs : u.cells.toList = cs) (hl : cs.length = sz) (hy : R (fun b => Pe b ∧ v.ownBlock ≠ some b) w y cs)
    (hsz : 0 < sz) (hsz2 : sz ≤ 16777216) (h63 : xs.length + 1 ≤ maxLen) (hby : (xs.length + 1) * bytes ≤ 140737488355328) (hd : Nat.blt d1 n = true) (hsd : (match s with | .tmp q => Nat.beq q d1 | _ => false) = false)
    (c : ∀ v' w' p, OwnS R e sz (fun b => Pb b ∨ w.heap.size ≤ b) Pe w' v' (xs ++ [y]) → Chg (fun b => v.ownBlock = some b) w w' → ((∃ p cap, v = .slice p xs.length cap ∧ v' = .slice p (xs.length + 1) cap) ∨ New w w' ∧ ∀ b, v'.ownBlock = some b → w.heap.size ≤ b) → Wl P n ds Q ops rest (upd (upd F d1 p) d2 v') w') :
    Wl P n ds Q ops (⟨some d1, .buildSlice t 1 #[(0, x)], ty1, pos1, aft1, none⟩ :: ⟨some d2, .call { callee := .builtin .append, args := #[s, .tmp d1], argTypes := #[t, t] }, ty2, pos2, aft2, none⟩ :: rest) F w := by
  obtain ⟨ocs, hoc, hoe⟩ := hown
  have h1 : ∀ c ∈ cs, c.oneCell' = true := hR.oc _ _ _ _ hy hl
  have huc : u.cells.size = sz := by rw [← hl, ← hcs]; simp
  have r1 := run_buildSlice1 (P := P) (w := w) ht.h he huc hsz hsz2
  let w1 := w.alloc (.cells u.cells e)
  have hk1 : New w w1 := Chg.alloc _ _ _
  have hnew : ∀ j q, cs[j]? = some q → w1.cell? ((⟨w.heap.size, 0, none⟩ : Addr).add j) = some q := by
    intro j q hq
    rw [addr_add, Nat.zero_add]
    have : w1.heap[w.heap.size]? = some (.cells u.cells e) := heap_alloc_new w _
    simp only [World.cell?, this]
    rw [← hcs] at hq
    simpa using hq
  obtain ⟨v', w', hr, h2, h3, h4⟩ := run_append_k (P := P) (w := w1) t ty2 e ht.h he hsz (hoc.keep hk1.keep) ⟨w.heap.size, 0, none⟩ 1 1 cs (by omega) hnew h1 h63 hby
  have hsize1 : w1.heap.size = w.heap.size + 1 := by simp [w1]
  have hel := elems_append (w := w1) (w' := w') (ys := [y]) (news := cs) hR hoc.1 (fun i x hx => hR.st _ _ _ _ _ hk1.keep (hoe i x hx))
    (fun i x hx => by
      have hi : i = 0 := by
        rcases Nat.eq_zero_or_pos i with h | h
        · exact h
        · rw [List.getElem?_eq_none (by simp; omega)] at hx; cases hx
      subst hi
      simp only [List.getElem?_cons_zero, Option.some.injEq] at hx
      subst hx
      simp only [Nat.zero_mul, List.drop_zero]
      rw [List.take_of_length_le (by omega)]
      exact hR.st _ _ _ _ _ hk1.keep hy) h3 (weak h4)
  refine Wl.val (w' := w1) (v := .slice (some ⟨w.heap.size, 0, none⟩) 1 1) ?_ (Wl.val (w' := w') (v := v') ?_ (c v' w' _ ⟨ocs ++ cs, ?_, hel⟩ ?_ (h4.imp id fun h => ⟨New.trans hk1 h.1, fun b hb => by have := h.2 b hb; omega⟩)))
  · simp only [execOp, List.map_toArray, List.map_cons, List.map_nil, hx, Sem.run_bind, r1, Result.andThen_ok, Sem.run_pure, w1]
  · have e1 : ev n (upd F d1 (.slice (some ⟨w.heap.size, 0, none⟩) 1 1)) s = v := by
      cases s with
      | tmp q =>
        simp only [ev] at hs ⊢
        rw [upd_eq, if_neg (Nat.ne_of_beq_eq_false hsd)]
        exact hs
      | _ => exact hs
    have e2 : ev n (upd F d1 (.slice (some ⟨w.heap.size, 0, none⟩) 1 1)) (.tmp d1) = .slice (some ⟨w.heap.size, 0, none⟩) 1 1 := by
      simp only [ev, hd, upd_eq, if_pos]
    simp only [execOp, resolve, invoke, builtin, Sem.run_bind, Sem.run_pure, Result.andThen_ok, List.map_toArray, List.map_cons, List.map_nil, e1, e2, hr]
  · rw [List.length_append, List.length_singleton]
    exact h2.mono fun b _ hb => hb.imp id (fun h => by omega)
  · exact hk1.any.trans h3 fun _ _ h => h
end
end Go.Proofs.YtjpebmgllfiloaaDoor.Wk

namespace Go.Proofs.YtjpebmgllfiloaaDoor
open Go Wk
open Go.RowKit (Below)
attribute [local irreducible] Go.Calls

/-- A list of props that is grown: it stays where it was, or what was lies as it did. -/
structure GrowI (Pb : Nat → Prop) (w0 w : World) (p : Option Addr) (cap : Nat) (xs : List Pr) (l : Value) (j : Nat) : Prop where
  ch : Chg (fun b => (Value.slice p xs.length cap).ownBlock = some b) w0 w
  lt : ∀ b, Pb b → b < w0.heap.size
  ow : (∃ ys : List Pr, ys.length = j ∧ l = .slice p (xs.length + j) cap ∧ OwnPr Pb w l (xs ++ ys)) ∨ (OwnPr Pb w (.slice p xs.length cap) xs ∧ ∃ ys : List Pr, ys.length = j ∧ OwnPr (fun b => w0.heap.size ≤ b) w l (xs ++ ys))
theorem GrowI.zero {Pb : Nat → Prop} {w : World} {p : Option Addr} {cap : Nat} {xs : List Pr} (h : OwnPr Pb w (.slice p xs.length cap) xs) (lt : ∀ b, Pb b → b < w.heap.size) : GrowI Pb w w p cap xs (.slice p xs.length cap) 0 :=
  ⟨Chg.refl _ _, lt, .inl ⟨[], rfl, rfl, by simpa using h⟩⟩
theorem OwnPr.cut {Pb : Nat → Prop} {w : World} {p : Option Addr} {m cap : Nat} {xs ys : List Pr} (h : OwnPr Pb w (.slice p m cap) (xs ++ ys)) (hm : m = xs.length + ys.length) : OwnPr Pb w (.slice p xs.length cap) xs := by
  have h2 := OwnS.take h (m := xs.length) (by simp) rfl (fun e => by
    subst e
    obtain ⟨cs, ⟨_, h | ⟨_, _, _, h, _⟩⟩, _⟩ := h
    · have := h.2; simp at this; simp [this]
    · cases h)
  rwa [List.take_left] at h2
theorem GrowI.fin {Pb : Nat → Prop} {w0 w : World} {p : Option Addr} {cap : Nat} {xs : List Pr} {l : Value} {j : Nat} (h : GrowI Pb w0 w p cap xs l j) : OwnPr Pb w (.slice p xs.length cap) xs := by
  rcases h.ow with ⟨ys, hy, rfl, o⟩ | ⟨o, _⟩
  · exact OwnPr.cut o (by rw [hy])
  · exact o
theorem GrowI.len {Pb : Nat → Prop} {w0 w : World} {p : Option Addr} {cap : Nat} {xs : List Pr} {l : Value} {j : Nat} (h : GrowI Pb w0 w p cap xs l j) : ∃ a c, l = .slice a (xs.length + j) c := by
  rcases h.ow with ⟨ys, hy, rfl, o⟩ | ⟨_, ys, hy, o⟩
  · exact ⟨_, _, rfl⟩
  · obtain ⟨a, c, rfl, _⟩ := o.form
    rw [List.length_append, hy]
    exact ⟨_, _, rfl⟩
section
variable {n : Nat} {ds : List Deferred} {Q : Po} {F : Fr} {w : World} {ops rest : List Oper} {d1 d2 : Nat} {ty1 ty2 : TypeId} {pos1 pos2 : String} {aft1 aft2 : Array Edge}
/-- 'l = append(l, p)' in such a list. -/
theorem Wl.growI {Pb : Nat → Prop} {w0 : World} {p : Option Addr} {cap : Nat} {xs : List Pr} {l : Value} {j : Nat} {x s : Operand} (y : Pr) (h : GrowI Pb w0 w p cap xs l j) (hs : ev n F s = l) (hx : ev n F x = .agg (pC y).toArray) (hb : xs.length + j ≤ 3000000) (hd : Nat.blt d1 n = true) (hsd : (match s with | .tmp q => Nat.beq q d1 | _ => false) = false)
    (c : ∀ l' w' p', GrowI Pb w0 w' p cap xs l' (j + 1) → Wl Tryd.prog n ds Q ops rest (upd (upd F d1 p') d2 l') w') :
    Wl Tryd.prog n ds Q ops (⟨some d1, .buildSlice 35 1 #[(0, x)], ty1, pos1, aft1, none⟩ :: ⟨some d2, .call { callee := .builtin .append, args := #[s, .tmp d1], argTypes := #[35, 35] }, ty2, pos2, aft2, none⟩ :: rest) F w := by
  have s0 := h.ch.size
  rcases h.ow with ⟨ys, hy, rfl, o⟩ | ⟨ob, ys, hy, o⟩
  · refine Wl.append1K (R := rPr) (y := y) (cs := pC y) goodPr o hs hx rfl rfl rfl (by omega) (by omega) (by rw [List.length_append, hy]; simp only [maxLen]; omega) (by rw [List.length_append, hy]; omega) hd hsd fun v' w' p' o' c' lie => c v' w' p' ?_
    have c2 : Chg (fun b => (Value.slice p xs.length cap).ownBlock = some b) w0 w' := Chg.trans h.ch c' fun b _ e => by cases p <;> exact e
    rcases lie with ⟨q, qc, e1, rfl⟩ | ⟨nw, fr⟩
    · simp only [Value.slice.injEq] at e1
      obtain ⟨rfl, e1, rfl⟩ := e1
      refine ⟨c2, h.lt, .inl ⟨ys ++ [y], by simp [hy], by rw [List.length_append, hy, Nat.add_assoc], ?_⟩⟩
      rw [← List.append_assoc]
      exact o'.reblk fun b e _ => (o.lt (k := b) (by cases p <;> exact e)).1
    · refine ⟨c2, h.lt, .inr ⟨(OwnPr.cut o (by rw [hy])).new plainPr nw, ys ++ [y], by simp [hy], ?_⟩⟩
      rw [← List.append_assoc]
      exact o'.reblk fun b e _ => by have := fr b e; omega
  · refine Wl.append1K (R := rPr) (y := y) (cs := pC y) goodPr o hs hx rfl rfl rfl (by omega) (by omega) (by rw [List.length_append, hy]; simp only [maxLen]; omega) (by rw [List.length_append, hy]; omega) hd hsd fun v' w' p' o' c' lie => c v' w' p' ?_
    refine ⟨Chg.trans h.ch c' fun b hb e => by have := (o.lt e).1; omega, h.lt, .inr ⟨ob.chg plainPr c' fun b e1 e2 => by have := h.lt b (ob.lt e1).1; have := (o.lt e2).1; omega, ys ++ [y], by simp [hy], ?_⟩⟩
    rw [← List.append_assoc]
    exact o'.reblk fun b e e2 => by rcases e2 with e2 | e2 <;> omega
end
/-- A tree that is written over: the list of nodes from one place on, the props from another one on. -/
structure OvI (lab : Lb) (w0 w : World) (a : Option Addr) (cap : Nat) (t : List Nd) (pvs : List Sl) (i q : Nat) : Prop where
  arr : ∃ L : List (Nd × Sl), L.length = t.length ∧ OwnS (flat ndV) tNd 3 (fun b => lab b = some 0) No w (.slice a t.length cap) L ∧ ∀ j, i ≤ j → L[j]? = (t.zip pvs)[j]?
  pr : ∀ j x pv, q ≤ j → t[j]? = some x → pvs[j]? = some pv → OwnPr (fun b => lab b = some (j + 1)) w (slV pv) x.props
  ch : Chg (fun b => lab b ≠ none) w0 w
theorem OvI.chg {lab : Lb} {w0 w w' : World} {a : Option Addr} {cap : Nat} {t : List Nd} {pvs : List Sl} {i q k : Nat} {M : Nat → Prop} (h : OvI lab w0 w a cap t pvs i q) (c : Chg M w w') (hM : ∀ b, M b → lab b = some k ∨ w.heap.size ≤ b) (hk : 0 < k) (hq : k ≤ q) : OvI lab w0 w' a cap t pvs i q := by
  obtain ⟨L, hl, o, hL⟩ := h.arr
  refine ⟨⟨L, hl, o.chg (plain_flat ndV) c fun b e1 e2 => ?_, hL⟩, fun j x pv hj hx hp => (h.pr j x pv hj hx hp).chg plainPr c fun b e1 e2 => ?_, Chg.trans h.ch c fun b hb e => ?_⟩
  · have := o.lt e1
    rcases hM b e2 with e | e
    · rw [this.1] at e; cases e; omega
    · omega
  · have := (h.pr j x pv hj hx hp).lt e1
    rcases hM b e2 with e | e
    · rw [this.1] at e; cases e; omega
    · omega
  · rcases hM b e with e | e
    · simp [e]
    · have := h.ch.size; omega
abbrev ovS : List UInt8 := [111, 118, 101, 114]
abbrev bhS : List UInt8 := [98, 101, 104, 105, 110, 100]
theorem goodPr1 : ∀ x : Pr, ∀ c ∈ pC x, c.oneCell' = true := by
  intro x c hc
  simp only [pC, List.mem_cons, List.not_mem_nil, or_false] at hc
  rcases hc with rfl | rfl <;> rfl
theorem goodNd1 : ∀ x : Nd × Sl, ∀ c ∈ ndV x, c.oneCell' = true := by
  intro x c hc
  simp only [ndV, List.mem_cons, List.not_mem_nil, or_false] at hc
  rcases hc with rfl | rfl | rfl <;> rfl
set_option maxHeartbeats 2000000 in
set_option maxRecDepth 4000 in
theorem over_spec {lo : Nat} {lab : Lb} {w : World} {v : Value} {t : List Nd} {pvs : List Sl} (h : TrOwn lo lab w v t pvs) (hl : t.length ≤ 2000000) (hpl : ∀ x ∈ t, x.props.length ≤ 2000000) :
    Calls Tryd.prog 32 #[v] w (Ret fun r w' => (∃ z, r = vi z) ∧ Chg (fun b => lab b ≠ none) w w') := by
  obtain ⟨a, cap, rfl, hcap, hcm⟩ := h.arr.form
  have hzl : (t.zip pvs).length = t.length := by simp [h.len]
  have arr := h.arr
  rw [hzl] at arr hcap ⊢
  have o0 : OvI lab w w a cap t pvs 0 0 := ⟨⟨_, hzl, arr, fun _ _ => rfl⟩, fun j x pv _ hx hp => h.pr j x pv hx hp, Chg.refl _ _⟩
  have hlw : ∀ b c, lab b = some c → b < w.heap.size := fun b c e => (h.low b c e).2
  have hpl2 := h.len
  clear h arr hcap
  refine calls_of_Wc Tryd.func32 rfl Tryd.ntmps32 rfl ?_
  (repeat' (first | refine Wl.assignE (by conv => { lhs; whnf }) ?_ | refine Wl.nil ?_ | refine Qseq.normal ?_ | refine Wc.seq ?_ | refine Wc.region ?_ | refine Wc.block ?_))
  refine Wc.loop (σ := Nat × Int) (fun s => [(0, .slice a t.length cap), (3, vi s.2), (4, vi s.1)]) (fun s w' => s.1 ≤ t.length ∧ OvI lab w w' a cap t pvs s.1 s.1) (fun s => t.length - s.1) (0, 0) ⟨rfl, rfl, rfl, trivial⟩ ⟨Nat.zero_le _, o0⟩ ?_
  rintro ⟨i, sum⟩ G w1 ⟨hi, o1⟩
  dsimp only at hi o1
  clear o0
  simp only [upds]
  (repeat' (first | refine Wl.moveE (by conv => { lhs; whnf }) ?_ | refine Wl.assignE (by conv => { lhs; whnf }) ?_ | refine Wl.nil ?_ | refine Wl.lenS rfl ?_ | refine Qseq.normal ?_ | refine Wc.seq ?_ | refine Wc.region ?_ | refine Wc.block ?_ | refine Wc.skip ?_ | refine Wc.exit ?_ | refine Qseq.exit ?_ | refine Qblk.hit ?_ | refine Qloop.exit ?_ | refine Wc.condT rfl ?_ | refine Wc.condF rfl ?_ | refine Wl.lss rfl rfl (fun _ => ?_) (fun _ => ?_)))
  · obtain ⟨x, hx⟩ := get_lt t (k := i) (by omega)
    obtain ⟨pv, hpv⟩ := get_lt pvs (k := i) (by omega)
    have hxl := hpl x (List.mem_of_getElem? hx)
    have ho := o1.pr i x pv (Nat.le_refl _) hx hpv
    have o1' : OvI lab w w1 a cap t pvs i (i + 1) := ⟨o1.arr, fun j y qv hj => o1.pr j y qv (by omega), o1.ch⟩
    clear o1
    obtain ⟨pa, pl, pc⟩ := pv
    obtain ⟨ra, rc, re, _, _⟩ := ho.form
    simp only [slV, Value.slice.injEq] at re
    obtain ⟨rfl, rfl, rfl⟩ := re
    simp only [slV] at ho
    have hz : (t.zip pvs)[i]? = some (x, (pa, x.props.length, pc)) := by rw [List.getElem?_zip_eq_some]; exact ⟨hx, hpv⟩
    skip
    refine Wc.loop (σ := Nat × List Pr) (fun s => [(0, .slice a t.length cap), (3, vi sum), (4, vi i), (5, vi s.1)]) (fun s w' => s.1 ≤ x.props.length ∧ s.2.length = x.props.length ∧ OwnPr (fun b => lab b = some (i + 1)) w' (.slice pa x.props.length pc) s.2 ∧ OvI lab w w' a cap t pvs i (i + 1)) (fun s => x.props.length - s.1) (0, x.props) ⟨rfl, rfl, rfl, rfl, trivial⟩ ⟨Nat.zero_le _, rfl, ho, o1'⟩ ?_
    clear ho o1'
    rintro ⟨k, ps⟩ G w2 ⟨hk, hps, ho, o2⟩
    dsimp only at hk hps ho o2
    simp only [upds]
    obtain ⟨L, hLl, oL, hL⟩ := o2.arr
    have hLi : L[i]? = some (x, (pa, x.props.length, pc)) := (hL i (Nat.le_refl _)).trans hz
    (repeat' (first | refine Wl.moveE (by conv => { lhs; whnf }) ?_ | refine Wc.seq ?_ | refine Wc.region ?_))
    refine Wl.idxAddr (oL.rd (mono_flat ndV)) rfl rfl (by omega) hLi fun b o cs hl hR hat => ?_
    obtain rfl : cs = ndV (x, _) := hR
    (repeat' (refine Wl.fieldAddr rfl rfl ?_))
    refine Wl.load1 (u := .slice pa x.props.length pc) rfl (hat.get 2 rfl) ?_
    clear hat
    (repeat' (first | refine Wl.moveE (by conv => { lhs; whnf }) ?_ | refine Wl.nil ?_ | refine Wl.lenS rfl ?_ | refine Qseq.normal ?_ | refine Wc.seq ?_ | refine Wc.region ?_ | refine Wc.block ?_ | refine Wc.skip ?_ | refine Wc.exit ?_ | refine Qseq.exit ?_ | refine Qblk.hit ?_ | refine Qloop.exit ?_ | refine Wc.condT rfl ?_ | refine Wc.condF rfl ?_ | refine Wl.lss rfl rfl (fun _ => ?_) (fun _ => ?_)))
    · refine Wl.idxAddr (oL.rd (mono_flat ndV)) rfl rfl (by omega) hLi fun b o cs hl hR hat => ?_
      obtain rfl : cs = ndV (x, _) := hR
      (repeat' (refine Wl.fieldAddr rfl rfl ?_))
      refine Wl.load1 (u := .slice pa x.props.length pc) rfl (hat.get 2 rfl) ?_
      clear hat
      (repeat' (refine Wl.moveE (by conv => { lhs; whnf }) ?_))
      refine Wl.buildF (ps := [(0, .const (vs ovS))]) (parts := [(0, vs ovS)]) rfl rfl (by simp [Value.cells]) ?_
      obtain ⟨g, gc, ge, _⟩ := ho.blk (by intro e; rw [e] at hps; simp at hps; omega)
      rw [hps] at ge
      simp only [Value.slice.injEq] at ge
      obtain ⟨rfl, _, rfl⟩ := ge
      refine Wl.idxP rfl rfl (by omega) (by omega) ?_
      refine Wl.storeOwnA (f := pC) (q := (ovS, [])) (j := k) (g := g) (cap := pc) (fun _ => rfl) goodPr1 ho (by rw [hps]) (by omega) (by show Value.pointer (some ⟨g, 0 + (k : Int).toNat * 2, none⟩) = _; simp) rfl rfl fun w3 o3 c3 => ?_
      (repeat' (first | refine Wl.moveE (by conv => { lhs; whnf }) ?_ | refine Wl.assignE (by conv => { lhs; whnf }) ?_ | refine Wl.nil ?_ | refine Qseq.normal ?_ | refine Wc.region ?_ | refine Qblk.normal ?_ | refine Wl.add rfl rfl (by omega) (by omega) ?_))
      exact Qloop.normal (k + 1, ps.set k (ovS, [])) ⟨rfl, rfl, rfl, rfl, trivial⟩ ⟨by dsimp only; omega, by simpa using hps, o3, o2.chg c3 (fun b e => .inl (ho.lt e).1) (by omega) (Nat.le_refl _)⟩ (by dsimp only; omega)
    · refine Wl.idxAddr (oL.rd (mono_flat ndV)) rfl rfl (by omega) hLi fun b o cs hl hR hat => ?_
      obtain rfl : cs = ndV (x, _) := hR
      (repeat' (refine Wl.fieldAddr rfl rfl ?_))
      refine Wl.load1 (u := .slice pa x.props.length pc) rfl (hat.get 2 rfl) ?_
      clear hat
      (repeat' (first | refine Wl.assignE (by conv => { lhs; whnf }) ?_ | refine Wl.nil ?_ | refine Qseq.normal ?_ | refine Wc.seq ?_ | refine Wc.region ?_ | refine Wc.block ?_))
      refine Wc.loop (σ := Nat × Value) (fun s => [(0, .slice a t.length cap), (3, vi sum), (4, vi i), (6, s.2), (7, vi s.1)]) (fun s w' => s.1 ≤ 40 ∧ GrowI (fun b => lab b = some (i + 1)) w2 w' pa pc ps s.2 s.1) (fun s => 40 - s.1) (0, .slice pa x.props.length pc) ⟨rfl, rfl, rfl, rfl, rfl, trivial⟩
        ⟨Nat.zero_le _, by rw [← hps] at ho ⊢; exact GrowI.zero ho fun b e => Nat.lt_of_lt_of_le (hlw b _ e) o2.ch.size⟩ ?_
      rintro ⟨m, l⟩ G w3 ⟨hm, g3⟩
      dsimp only at hm g3
      obtain ⟨la, lc, rfl⟩ := g3.len
      simp only [upds]
      (repeat' (first | refine Wl.moveE (by conv => { lhs; whnf }) ?_ | refine Wl.nil ?_ | refine Wl.lenS rfl ?_ | refine Qseq.normal ?_ | refine Wc.seq ?_ | refine Wc.region ?_ | refine Wc.block ?_ | refine Wc.skip ?_ | refine Wc.exit ?_ | refine Qseq.exit ?_ | refine Qblk.hit ?_ | refine Qloop.exit ?_ | refine Wc.condT rfl ?_ | refine Wc.condF rfl ?_ | refine Wl.lss rfl rfl (fun _ => ?_) (fun _ => ?_)))
      · refine Wl.buildF (ps := [(0, .const (vs bhS))]) (parts := [(0, vs bhS)]) rfl rfl (by simp [Value.cells]) ?_
        refine Wl.growI (bhS, []) g3 rfl rfl (by omega) rfl rfl fun l' w4 p' g4 => ?_
        (repeat' (first | refine Wl.moveE (by conv => { lhs; whnf }) ?_ | refine Wl.assignE (by conv => { lhs; whnf }) ?_ | refine Wl.nil ?_ | refine Qseq.normal ?_ | refine Wc.region ?_ | refine Qblk.normal ?_ | refine Wl.add rfl rfl (by omega) (by omega) ?_))
        exact Qloop.normal (m + 1, l') ⟨rfl, rfl, rfl, rfl, rfl, trivial⟩ ⟨by dsimp only; omega, g4⟩ (by dsimp only; omega)
      · refine Wl.addW rfl rfl ?_
        (repeat' (first | refine Wl.moveE (by conv => { lhs; whnf }) ?_ | refine Wl.assignE (by conv => { lhs; whnf }) ?_ | refine Wl.nil ?_ | refine Qseq.normal ?_ | refine Wc.region ?_))
        have o3 := o2.chg g3.ch (fun b e => .inl (ho.lt (k := b) (by rw [← hps]; exact e)).1) (by omega) (Nat.le_refl _)
        obtain ⟨L3, hLl3, oL3, hL3⟩ := o3.arr
        refine Wl.buildF (ps := [(1, .const (vs ovS))]) (parts := [(1, vs ovS)]) rfl rfl (by simp [Value.cells]) ?_
        obtain ⟨g, gc, ge, _⟩ := oL3.blk (by intro e; rw [e] at hLl3; simp at hLl3; omega)
        rw [hLl3] at ge
        simp only [Value.slice.injEq] at ge
        obtain ⟨rfl, _, rfl⟩ := ge
        refine Wl.idxP rfl rfl (by omega) (by omega) ?_
        refine Wl.storeOwnA (f := ndV) (q := (⟨0, ovS, []⟩, (none, 0, 0))) (j := i) (g := g) (cap := cap) (fun _ => rfl) goodNd1 oL3 (by rw [hLl3]) (by omega) (by show Value.pointer (some ⟨g, 0 + (i : Int).toNat * 3, none⟩) = _; simp) rfl rfl fun w4 o4 c4 => ?_
        (repeat' (first | refine Wl.moveE (by conv => { lhs; whnf }) ?_ | refine Wl.assignE (by conv => { lhs; whnf }) ?_ | refine Wl.nil ?_ | refine Qseq.normal ?_ | refine Wc.region ?_ | refine Qblk.normal ?_ | refine Wl.add rfl rfl (by omega) (by omega) ?_))
        refine Qloop.normal (i + 1, _) ⟨rfl, rfl, rfl, trivial⟩ ⟨by dsimp only; omega, ⟨_, by simpa using hLl3, o4, fun j hj => ?_⟩, fun j y qv hj hy hq => ?_, Chg.trans o3.ch c4 fun b _ e => by rw [(oL3.lt e).1]; simp⟩ (by dsimp only; omega)
        · rw [List.getElem?_set, if_neg (by dsimp only at hj; omega)]
          exact hL3 j (by dsimp only at hj; omega)
        · have ho3 := o3.pr j y qv hj hy hq
          exact ho3.chg plainPr c4 fun b e1 e2 => by have h1 := (ho3.lt e1).1; rw [(oL3.lt e2).1] at h1; cases h1
  · obtain ⟨L, hLl, oL, _⟩ := o1.arr
    refine Wc.loop (σ := Nat × Value × List (Nd × Sl)) (fun s => [(0, s.2.1), (3, vi sum), (8, vi s.1)]) (fun s w' => s.1 ≤ 20 ∧ s.2.2.length = t.length + s.1 ∧ OwnS (flat ndV) tNd 3 (fun b => lab b = some 0 ∨ w.heap.size ≤ b) No w' s.2.1 s.2.2 ∧ Chg (fun b => lab b ≠ none) w w') (fun s => 20 - s.1)
      (0, .slice a t.length cap, L) ⟨rfl, rfl, rfl, trivial⟩ ⟨Nat.zero_le _, hLl, oL.reblk fun b _ e => .inl e, o1.ch⟩ ?_
    rintro ⟨m, l, zs⟩ G w2 ⟨hm, hzs, oz, c2⟩
    dsimp only at hm hzs oz c2
    obtain ⟨la, lc, rfl, _, _⟩ := oz.form
    have s2 := c2.size
    simp only [upds]
    (repeat' (first | refine Wl.moveE (by conv => { lhs; whnf }) ?_ | refine Wl.nil ?_ | refine Wl.lenS rfl ?_ | refine Qseq.normal ?_ | refine Wc.seq ?_ | refine Wc.region ?_ | refine Wc.block ?_ | refine Wc.skip ?_ | refine Wc.exit ?_ | refine Qseq.exit ?_ | refine Qblk.hit ?_ | refine Qloop.exit ?_ | refine Wc.condT rfl ?_ | refine Wc.condF rfl ?_ | refine Wl.lss rfl rfl (fun _ => ?_) (fun _ => ?_)))
    · refine Wl.buildF (ps := [(1, .const (vs bhS))]) (parts := [(1, vs bhS)]) rfl rfl (by simp [Value.cells]) ?_
      refine Wl.append1 (R := flat ndV) (y := (⟨0, bhS, []⟩, (none, 0, 0))) goodNdV oz rfl rfl rfl rfl rfl (by omega) (by omega) (by simp only [maxLen]; omega) (by omega) rfl rfl fun v3 w3 p3 o3 c3 lie => ?_
      (repeat' (first | refine Wl.moveE (by conv => { lhs; whnf }) ?_ | refine Wl.assignE (by conv => { lhs; whnf }) ?_ | refine Wl.nil ?_ | refine Qseq.normal ?_ | refine Wc.region ?_ | refine Qblk.normal ?_ | refine Wl.add rfl rfl (by omega) (by omega) ?_))
      exact Qloop.normal (m + 1, v3, _) ⟨rfl, rfl, rfl, trivial⟩ ⟨by dsimp only; omega, by dsimp only; rw [List.length_append, hzs]; simp; omega, o3.reblk fun b _ e => (by rcases e with (e | e) | e; exact .inl e; exact .inr e; exact .inr (by omega)), Chg.trans c2 c3 fun b hb e => by
        rcases (oz.lt e).1 with e | e
        · rw [e]; simp
        · omega⟩ (by dsimp only; omega)
    · refine Wl.addW rfl rfl ?_
      (repeat' (first | refine Wl.assignE (by conv => { lhs; whnf }) ?_ | refine Wl.nil ?_ | refine Qseq.normal ?_ | refine Wc.ret ?_))
      exact Qfn.ret1 rfl rfl ⟨_, rfl, ⟨_, rfl⟩, c2⟩
end Go.Proofs.YtjpebmgllfiloaaDoor

namespace Go.Proofs.YtjpebmgllfiloaaDoor
open Go Wk
open Go.RowKit (Below)
attribute [local irreducible] Go.Calls

theorem own_map {α : Type} {f : α → List Value} {e : TypeId} {sz : Nat} {Pb Pe : Nat → Prop} {w : World} {v : Value} {xs ys : List α} (h : OwnS (flat f) e sz Pb Pe w v xs) (hm : xs.map f = ys.map f) : OwnS (flat f) e sz Pb Pe w v ys := by
  obtain ⟨cs, oc, el⟩ := h
  have hl : xs.length = ys.length := by simpa using congrArg List.length hm
  refine ⟨cs, hl ▸ oc, fun i y hy => ?_⟩
  have h1 : (ys.map f)[i]? = some (f y) := by rw [List.getElem?_map, hy]; rfl
  rw [← hm, List.getElem?_map] at h1
  obtain ⟨x, hx, hxy⟩ := Option.map_eq_some_iff.1 h1
  show _ = f y
  rw [← hxy]
  exact el i x hx
/-- One list of props in a tree of one's own is another one. -/
theorem TrOwn.setProps {lo : Nat} {lab : Lb} {w w' : World} {v : Value} {t : List Nd} {pvs : List Sl} (h : TrOwn lo lab w v t pvs) {i : Nat} {x : Nd} {pv : Sl} {ps : List Pr} (hx : t[i]? = some x) (hp : pvs[i]? = some pv)
    (c : Chg (fun b => lab b = some (i + 1)) w w') (o : OwnPr (fun b => lab b = some (i + 1)) w' (slV pv) ps) : TrOwn lo lab w' v (t.set i { x with props := ps }) pvs := by
  refine ⟨by simpa using h.len, fun b q e => ⟨(h.low b q e).1, Nat.lt_of_lt_of_le (h.low b q e).2 c.size⟩, ?_, fun j y qv hy hq => ?_⟩
  · refine own_map (h.arr.chg (plain_flat ndV) c fun b e1 e2 => by rw [(h.arr.lt e1).1] at e2; cases e2) ?_
    apply List.ext_getElem?
    intro j
    rw [List.getElem?_map, List.getElem?_map]
    have : (t.set i { x with props := ps }).zip pvs = (t.zip pvs).set i ({ x with props := ps }, pv) := by rw [zip_set2, list_set_self hp]
    rw [this, List.getElem?_set]
    split
    · rename_i e
      subst e
      have hz : (t.zip pvs)[i]? = some (x, pv) := List.getElem?_zip_eq_some.2 ⟨hx, hp⟩
      rw [if_pos (List.getElem?_eq_some_iff.1 hz).1, hz]
      rfl
    · rfl
  · rw [List.getElem?_set] at hy
    split at hy
    · rename_i e
      subst e
      rw [if_pos (List.getElem?_eq_some_iff.1 hx).1] at hy
      cases hy
      rw [hp] at hq
      cases hq
      exact o
    · rename_i e
      have ho := h.pr j y qv hy hq
      exact ho.chg plainPr c fun b e1 e2 => by have := (ho.lt e1).1; rw [e2] at this; cases this; exact e rfl
section
variable {P : Program} {n : Nat} {ds : List Deferred} {F : Fr} {w : World} {ops rest : List Oper} {d : Nat} {ty : TypeId} {pos : String} {aft : Array Edge}
/-- x[a:] in a region that draws. -/
theorem Wq.sliceFrom {α : Type} {R : Rel α} {C : World → Prop} {K : Fr → Prop} {Pb : Nat → Prop} {xs : List α} {x lo : Operand} {t e : TypeId} {sz bytes : Nat} {agg : Bool} {z v : Value} {k : IntKind} {a : Int} [ht : Und P t (.slice e)] [he : ElT P e sz bytes agg z] (h : RdS R sz Pb w v xs) (hx : ev n F x = v) (hl : ev n F lo = .int k a) (h0 : 0 ≤ a) (h1 : a ≤ xs.length)
    (c : ∀ v', RdS R sz Pb w v' (xs.drop a.toNat) → Wq P n ds C K ops rest (upd F d v')) : Wq P n ds C K ops (⟨some d, .slice t x (some lo) none none, ty, pos, aft, none⟩ :: rest) F := by
  obtain ⟨p, cap, rfl, hc, _⟩ := h.form
  obtain ⟨a, rfl⟩ := Int.eq_ofNat_of_zero_le h0
  have hr := h.sub (a := a) (b := xs.length) (by omega) (Nat.le_refl _)
  rw [List.take_length] at hr
  refine Wq.val (fun w' _ => ?_) (c _ hr)
  have := run_sliceS (P := P) (w := w') (p := p) (l := xs.length) (lo := some (.int k a)) (hi := none) (a := a) (b := xs.length) ht.h he (.inr ⟨k, rfl⟩) (.inl ⟨rfl, rfl⟩) (by omega) hc
  simp only [execOp, hx, hl, Option.map_none, Option.map_some, Sem.run_bind, this, Result.andThen_ok, Sem.run_pure]
end
set_option maxHeartbeats 2000000 in
set_option maxRecDepth 4000 in
theorem apart_spec {lo : Nat} {lab : Lb} {P2 P3 : Nat → Prop} {w : World} {v v2 v3 : Value} {t : List Nd} {pvs : List Sl} (h : TrOwn lo lab w v t pvs) (h2 : RdS rNd 3 P2 w v2 t) (h3 : RdS rNd 3 P3 w v3 t) (d2 : ∀ b, b < w.heap.size → P2 b → lab b = none) (d3 : ∀ b, b < w.heap.size → P3 b → lab b = none)
    (hs : Short t) (hl : t.length ≤ 2000000) (hpl : ∀ x ∈ t, x.props.length ≤ 2000000) :
    Calls Tryd.prog 17 #[v, v2, v3] w (Ret fun r w' => r = .bool true ∧ Chg (fun b => lab b ≠ none) w w') := by
  replace h2 := h2.mono monoNd d2
  replace h3 := h3.mono monoNd d3
  obtain ⟨a2, c2, rfl, _, _⟩ := h2.form
  obtain ⟨a3, c3, rfl, _, _⟩ := h3.form
  have hlw : ∀ b c, lab b = some c → b < w.heap.size := fun b c e => (h.low b c e).2
  have hk : ∀ {w w' : World}, Chg (fun b => lab b ≠ none) w w' → Keep (fun b => lab b = none) w w' := fun c => c.keep fun b _ e e2 => e2 e
  refine calls_of_Wc Tryd.func17 rfl Tryd.ntmps17 rfl ?_
  (repeat' (first | refine Wl.moveE (by conv => { lhs; whnf }) ?_ | refine Wl.assignE (by conv => { lhs; whnf }) ?_ | refine Wl.nil ?_ | refine Qseq.normal ?_ | refine Wc.seq ?_ | refine Wc.region ?_))
  refine Wl.call (Same_spec h.rd h3 hs) rfl ?_
  rintro _ w1 ⟨rfl, n1⟩
  have n1s := n1.size
  (repeat' (first | refine Wl.moveE (by conv => { lhs; whnf }) ?_ | refine Wl.guardY rfl rfl ?_ | refine Wl.notB rfl ?_))
  refine Wl.call (Same_spec (h2.keep stableNd n1.keep) (h3.keep stableNd n1.keep) hs) rfl ?_
  rintro _ w2 ⟨rfl, n2⟩
  have n02 := New.trans n1 n2
  replace h := h.new n02
  replace h2 := h2.keep stableNd n02.keep
  replace h3 := h3.keep stableNd n02.keep
  obtain ⟨a1, c1, rfl, hc1, hcm1⟩ := h.arr.form
  have hzl : (t.zip pvs).length = t.length := by simp [h.len]
  rw [hzl] at hc1 h ⊢
  simp only [maxLen] at hcm1
  have hpvl := h.len
  (repeat' (first | refine Wl.assignE (by conv => { lhs; whnf }) ?_ | refine Wl.nil ?_ | refine Wl.guardY rfl rfl ?_ | refine Wl.pickFE rfl (by conv => { lhs; whnf }) ?_ | refine Wl.notB rfl ?_ | refine Qseq.normal ?_ | refine Wc.seq ?_ | refine Wc.region ?_ | refine Wc.block ?_ | refine Wc.skip ?_ | refine Wc.condF rfl ?_))
  refine Wc.loop (σ := Nat × List Nd) (fun s => [(0, .slice a1 t.length c1), (1, .slice a2 t.length c2), (2, .slice a3 t.length c3), (7, vi s.1)])
    (fun s w' => s.1 ≤ t.length ∧ s.2.length = t.length ∧ TrOwn lo lab w' (.slice a1 t.length c1) s.2 pvs ∧ (∀ j, s.1 ≤ j → s.2[j]? = t[j]?) ∧ (∀ x ∈ s.2, x.props.length ≤ 2000000) ∧ Chg (fun b => lab b ≠ none) w2 w') (fun s => t.length - s.1)
    (0, t) ⟨rfl, rfl, rfl, rfl, trivial⟩ ⟨Nat.zero_le _, rfl, h, fun _ _ => rfl, hpl, Chg.refl _ _⟩ ?_
  clear h
  rintro ⟨i, t'⟩ G w3 ⟨hi, htl, h, hsame, hpl', c3'⟩
  dsimp only at hi htl h hsame hpl' c3'
  have s3 := c3'.size
  simp only [upds]
  (repeat' (first | refine Wl.moveE (by conv => { lhs; whnf }) ?_ | refine Wl.nil ?_ | refine Wl.lenS rfl ?_ | refine Qseq.normal ?_ | refine Wc.seq ?_ | refine Wc.region ?_ | refine Wc.block ?_ | refine Wc.skip ?_ | refine Wc.exit ?_ | refine Qseq.exit ?_ | refine Qblk.hit ?_ | refine Qloop.exit ?_ | refine Wc.condT rfl ?_ | refine Wc.condF rfl ?_ | refine Wl.lss rfl rfl (fun _ => ?_) (fun _ => ?_)))
  · obtain ⟨x, hx⟩ := get_lt t' (k := i) (by omega)
    obtain ⟨pv, hpv⟩ := get_lt pvs (k := i) (by omega)
    have hz : (t'.zip pvs)[i]? = some (x, pv) := by rw [List.getElem?_zip_eq_some]; exact ⟨hx, hpv⟩
    have hxl := hpl' x (List.mem_of_getElem? hx)
    have ho := h.pr i x pv hx hpv
    obtain ⟨pa, pl, pc⟩ := pv
    obtain ⟨ra, rc, re, hrc, hrm⟩ := ho.form
    simp only [slV, Value.slice.injEq] at re
    obtain ⟨rfl, rfl, rfl⟩ := re
    simp only [slV] at ho
    refine Wl.idxAddr (h.arr.rd (mono_flat ndV)) rfl rfl (by omega) hz fun b o cs hl' hR hat => ?_
    obtain rfl : cs = ndV (x, _) := hR
    (repeat' (refine Wl.fieldAddr rfl rfl ?_))
    refine Wl.load1 (u := .slice pa x.props.length pc) rfl (hat.get 2 rfl) ?_
    clear hat
    (repeat' (first | refine Wl.assignE (by conv => { lhs; whnf }) ?_ | refine Wl.nil ?_ | refine Qseq.normal ?_ | refine Wc.seq ?_ | refine Wc.region ?_ | refine Wc.block ?_))
    refine Wc.loop (σ := Nat × List Pr) (fun s => [(0, .slice a1 t.length c1), (1, .slice a2 t.length c2), (2, .slice a3 t.length c3), (7, vi i), (8, .slice pa x.props.length pc), (9, vi s.1)])
      (fun s w' => s.1 ≤ x.props.length ∧ s.2.length = x.props.length ∧ OwnPr (fun b => lab b = some (i + 1)) w' (.slice pa x.props.length pc) s.2 ∧ Chg (fun b => lab b = some (i + 1)) w3 w') (fun s => x.props.length - s.1)
      (0, x.props) ⟨rfl, rfl, rfl, rfl, rfl, rfl, trivial⟩ ⟨Nat.zero_le _, rfl, ho, Chg.refl _ _⟩ ?_
    clear ho
    rintro ⟨k, ps⟩ G w4 ⟨hk', hps, ho, c4⟩
    dsimp only at hk' hps ho c4
    simp only [upds]
    (repeat' (first | refine Wl.moveE (by conv => { lhs; whnf }) ?_ | refine Wl.assignE (by conv => { lhs; whnf }) ?_ | refine Wl.nil ?_ | refine Wl.lenS rfl ?_ | refine Qseq.normal ?_ | refine Wc.seq ?_ | refine Wc.region ?_ | refine Wc.block ?_ | refine Wc.skip ?_ | refine Wc.exit ?_ | refine Qseq.exit ?_ | refine Qblk.hit ?_ | refine Qloop.exit ?_ | refine Wc.condT rfl ?_ | refine Wc.condF rfl ?_ | refine Wl.lss rfl rfl (fun _ => ?_) (fun _ => ?_)))
    · refine Wl.buildF (ps := [(0, .const (vs ovS))]) (parts := [(0, vs ovS)]) rfl rfl (by simp [Value.cells]) ?_
      obtain ⟨g, gc, ge, _⟩ := ho.blk (by intro e; rw [e] at hps; simp at hps; omega)
      rw [hps] at ge
      simp only [Value.slice.injEq] at ge
      obtain ⟨rfl, _, rfl⟩ := ge
      refine Wl.idxP rfl rfl (by omega) (by omega) ?_
      refine Wl.storeOwnA (f := pC) (q := (ovS, [])) (j := k) (g := g) (cap := pc) (fun _ => rfl) goodPr1 ho (by rw [hps]) (by omega) (by show Value.pointer (some ⟨g, 0 + (k : Int).toNat * 2, none⟩) = _; simp) rfl rfl fun w5 o5 c5 => ?_
      (repeat' (first | refine Wl.moveE (by conv => { lhs; whnf }) ?_ | refine Wl.assignE (by conv => { lhs; whnf }) ?_ | refine Wl.nil ?_ | refine Qseq.normal ?_ | refine Wc.region ?_ | refine Qblk.normal ?_ | refine Wl.add rfl rfl (by omega) (by omega) ?_))
      exact Qloop.normal (k + 1, ps.set k (ovS, [])) ⟨rfl, rfl, rfl, rfl, rfl, rfl, trivial⟩ ⟨by dsimp only; omega, by simpa using hps, o5, Chg.trans c4 c5 fun b _ e => (ho.lt e).1⟩ (by dsimp only; omega)
    · have s4 := c4.size
      rw [← hps]
      rw [← hps] at ho
      refine Wc.loop (σ := Nat × Value) (fun s => [(0, .slice a1 t.length c1), (1, .slice a2 t.length c2), (2, .slice a3 t.length c3), (7, vi i), (8, s.2), (10, vi s.1)]) (fun s w' => s.1 ≤ 40 ∧ GrowI (fun b => lab b = some (i + 1)) w4 w' pa pc ps s.2 s.1) (fun s => 40 - s.1) (0, .slice pa ps.length pc) ⟨rfl, rfl, rfl, rfl, rfl, rfl, trivial⟩
        ⟨Nat.zero_le _, GrowI.zero ho fun b e => by have := hlw b _ e; have := n02.size; omega⟩ ?_
      rintro ⟨m, l⟩ G w5 ⟨hm, g5⟩
      dsimp only at hm g5
      obtain ⟨la, lc, rfl⟩ := g5.len
      simp only [upds]
      (repeat' (first | refine Wl.moveE (by conv => { lhs; whnf }) ?_ | refine Wl.nil ?_ | refine Qseq.normal ?_ | refine Wc.seq ?_ | refine Wc.region ?_ | refine Wc.block ?_ | refine Wc.skip ?_ | refine Wc.exit ?_ | refine Qseq.exit ?_ | refine Qblk.hit ?_ | refine Qloop.exit ?_ | refine Wc.condT rfl ?_ | refine Wc.condF rfl ?_ | refine Wl.lss rfl rfl (fun _ => ?_) (fun _ => ?_)))
      · refine Wl.buildF (ps := [(0, .const (vs bhS))]) (parts := [(0, vs bhS)]) rfl rfl (by simp [Value.cells]) ?_
        refine Wl.growI (bhS, []) g5 rfl rfl (by omega) rfl rfl fun l' w6 p' g6 => ?_
        (repeat' (first | refine Wl.moveE (by conv => { lhs; whnf }) ?_ | refine Wl.assignE (by conv => { lhs; whnf }) ?_ | refine Wl.nil ?_ | refine Qseq.normal ?_ | refine Wc.region ?_ | refine Qblk.normal ?_ | refine Wl.add rfl rfl (by omega) (by omega) ?_))
        exact Qloop.normal (m + 1, l') ⟨rfl, rfl, rfl, rfl, rfl, rfl, trivial⟩ ⟨by dsimp only; omega, g6⟩ (by dsimp only; omega)
      · have c35 : Chg (fun b => lab b = some (i + 1)) w3 w5 := Chg.trans c4 g5.ch fun b _ e => (ho.lt e).1
        have o5 := g5.fin
        have t5 := h.setProps hx hpv c35 (by rw [hps] at o5; exact o5)
        have c25 : Chg (fun b => lab b ≠ none) w2 w5 := Chg.trans c3' c35 fun b _ e => by rw [e]; simp
        have r3 := h3.keep stableNd (hk c25)
        have hdrop : (t'.set i { x with props := ps }).drop (i + 1) = t.drop (i + 1) := by
          apply List.ext_getElem?
          intro j
          rw [List.getElem?_drop, List.getElem?_drop, List.getElem?_set, if_neg (by omega)]
          exact hsame _ (by omega)
        have hsd : Short (t.drop (i + 1)) := fun y hy => hs y (List.mem_of_mem_drop hy)
        refine Wc.regionN rfl (by kernel_rfl) ?_
        (repeat' (first | refine Wq.moveE (by conv => { lhs; whnf }) ?_ | refine Wq.guardY rfl rfl ?_ | refine Wq.lenS rfl ?_ | refine Wq.add rfl rfl (by omega) (by omega) ?_ | (refine Wq.lss rfl rfl (fun _ => ?_) (fun _ => ?_) <;> (first | (exfalso; omega) | skip))))
        refine Wq.sliceFrom t5.rd rfl rfl (by omega) (by simp; omega) fun v' r' => ?_
        (repeat' (first | refine Wq.moveE (by conv => { lhs; whnf }) ?_ | refine Wq.guardY rfl rfl ?_ | refine Wq.add rfl rfl (by omega) (by omega) ?_))
        refine Wq.sliceFrom r3 rfl rfl (by omega) (by omega) fun v'' r'' => ?_
        have e1 : ((i : Int) + 1).toNat = i + 1 := by omega
        rw [e1] at r' r''
        rw [hdrop] at r'
        (try refine Wq.guardY rfl rfl ?_)
        refine Wq.call (v := .bool true) (fun w' hw => (Same_spec (r'.keep stableNd (New.keep hw)) (r''.keep stableNd (New.keep hw)) hsd).mono ?_) rfl ?_
        · rintro _ w'' ⟨r, rfl, rfl, n⟩
          exact ⟨rfl, New.trans hw n⟩
        (repeat' (first | refine Wq.nil ?_ | refine Wq.guardY rfl rfl ?_ | refine Wq.pickFE rfl (by conv => { lhs; whnf }) ?_ | refine Wq.notB rfl ?_))
        intro w6 n6
        (repeat' (first | refine Wl.moveE (by conv => { lhs; whnf }) ?_ | refine Wl.assignE (by conv => { lhs; whnf }) ?_ | refine Wl.nil ?_ | refine Qseq.normal ?_ | refine Wc.region ?_ | refine Wc.skip ?_ | refine Qblk.normal ?_ | refine Wc.condF rfl ?_ | refine Wl.add rfl rfl (by omega) (by omega) ?_))
        refine Qloop.normal (i + 1, _) ⟨rfl, rfl, rfl, rfl, trivial⟩ ⟨by dsimp only; omega, by simpa using htl, t5.new n6, fun j hj => ?_, fun y hy => ?_, Chg.trans c25 n6 fun _ _ e => e.elim⟩ (by dsimp only; omega)
        · dsimp only at hj ⊢
          rw [List.getElem?_set, if_neg (by omega)]
          exact hsame j (by omega)
        · rcases List.mem_or_eq_of_mem_set hy with hy | rfl
          · exact hpl' y hy
          · dsimp only; omega
  · refine Wl.call (over_spec h (by omega) hpl') rfl ?_
    rintro _ w4 ⟨⟨z, rfl⟩, c4⟩
    have c24 : Chg (fun b => lab b ≠ none) w2 w4 := Chg.trans c3' c4 fun _ _ e => e
    (repeat' (first | refine Wl.moveE (by conv => { lhs; whnf }) ?_ | refine Wl.nil ?_ | refine Qseq.normal ?_ | refine Wc.seq ?_ | refine Wc.region ?_))
    refine Wl.call (Same_spec (h2.keep stableNd (hk c24)) (h3.keep stableNd (hk c24)) hs) rfl ?_
    rintro _ w5 ⟨rfl, n5⟩
    (repeat' (first | refine Wl.assignE (by conv => { lhs; whnf }) ?_ | refine Wl.nil ?_ | refine Qseq.normal ?_ | refine Wc.ret ?_))
    exact Qfn.ret1 rfl rfl ⟨_, rfl, rfl, Chg.trans n02.any (Chg.trans c24 n5 fun _ _ e => e.elim) fun _ _ e => e⟩
end Go.Proofs.YtjpebmgllfiloaaDoor

namespace Go.Proofs.YtjpebmgllfiloaaDoor
open Go Wk
open Go.RowKit (Below)
attribute [local irreducible] Go.Calls

def rloop (pn : List Nd) (a n : Nat) (rec : List Nd → Nat → Nat → List Nd × Bool) : List Nat → List Nd → List Nd × Bool
  | [], t => (t, true)
  | k :: r, t => match pn[k]? with
    | none => (t, true)
    | some x =>
      if x.parent ≠ (n : Int) then rloop pn a n rec r t
      else match kidL t (a : Int) x.name with
        | some j => (match rec t j k with | (t', true) => rloop pn a n rec r t' | (t', false) => (t', false))
        | none => if 512 ≤ t.length then (t, false)
          else (match rec (putL t a x.name) (a + belowL t a) k with | (t', true) => rloop pn a n rec r t' | (t', false) => (t', false))
def rlay (pn : List Nd) : Nat → List Nd → Nat → Nat → List Nd × Bool
  | 0, t, _, _ => (t, false)
  | f + 1, t, a, n => match t[a]?, pn[n]? with
    | some y, some x =>
      if 32 < (x.props.foldl setPr y.props).length then (t.set a { y with props := x.props.foldl setPr y.props }, false)
      else rloop pn a n (fun t j k => rlay pn f t j k) ((List.range pn.length).drop (n + 1)) (t.set a { y with props := x.props.foldl setPr y.props })
    | _, _ => (t, false)
/-- What the trees between keep. -/
structure Small (t : List Nd) : Prop where
  len : t.length ≤ 512
  par : ∀ x ∈ t, x.parent < t.length
  pr : ∀ x ∈ t, x.props.length ≤ 32
theorem Small.put {t : List Nd} {a : Nat} {nm : List UInt8} (h : Small t) (ha : a < t.length) (hl : ¬ 512 ≤ t.length) : Small (putL t a nm) := by
  have hb := belowL_le ha
  refine ⟨by rw [putL_length]; omega, fun x hx => ?_, fun x hx => ?_⟩
  · rw [putL_length]
    unfold putL at hx
    simp only [List.mem_append, List.mem_cons, List.mem_map] at hx
    rcases hx with hx | rfl | ⟨y, hy, rfl⟩
    · have := h.par x (List.mem_of_mem_take hx); omega
    · simp only; omega
    · have := h.par y (List.mem_of_mem_drop hy)
      unfold shP
      split <;> (try dsimp only) <;> omega
  · unfold putL at hx
    simp only [List.mem_append, List.mem_cons, List.mem_map] at hx
    rcases hx with hx | rfl | ⟨y, hy, rfl⟩
    · exact h.pr x (List.mem_of_mem_take hx)
    · simp
    · rw [shP_props]; exact h.pr y (List.mem_of_mem_drop hy)
theorem Small.set {t : List Nd} {a : Nat} {y : Nd} {ps : List Pr} (h : Small t) (hy : t[a]? = some y) (hp : ps.length ≤ 32) : Small (t.set a { y with props := ps }) := by
  have hym := List.mem_of_getElem? hy
  refine ⟨by simpa using h.len, fun x hx => ?_, fun x hx => ?_⟩
  · rw [List.length_set]
    rcases List.mem_or_eq_of_mem_set hx with hx | rfl
    · exact h.par x hx
    · exact h.par y hym
  · rcases List.mem_or_eq_of_mem_set hx with hx | rfl
    · exact h.pr x hx
    · exact hp
theorem rloop_small {pn : List Nd} {a n : Nat} {rec : List Nd → Nat → Nat → List Nd × Bool} (hrec : ∀ t j k, Small t → j < t.length → (rec t j k).2 = true → Small (rec t j k).1 ∧ t.length ≤ (rec t j k).1.length) :
    ∀ (l : List Nat) (t : List Nd), Small t → a < t.length → (rloop pn a n rec l t).2 = true → Small (rloop pn a n rec l t).1 ∧ t.length ≤ (rloop pn a n rec l t).1.length
  | [], t, h, _, _ => ⟨h, Nat.le_refl _⟩
  | k :: r, t, h, ha, h2 => by
    rw [rloop] at h2 ⊢
    cases hx : pn[k]? with
    | none => exact ⟨h, Nat.le_refl _⟩
    | some x =>
      rw [hx] at h2
      dsimp only at h2 ⊢
      by_cases hp : x.parent ≠ (n : Int)
      · rw [if_pos hp] at h2 ⊢
        exact rloop_small hrec r t h ha h2
      · rw [if_neg hp] at h2 ⊢
        cases hk : kidL t (a : Int) x.name with
        | some j =>
          rw [hk] at h2
          dsimp only at h2 ⊢
          have hj : j < t.length := by unfold kidL at hk; exact (List.findIdx?_eq_some_iff_getElem.1 hk).1
          have h3 := hrec t j k h hj
          generalize rec t j k = R at h2 h3 ⊢
          obtain ⟨t', b⟩ := R
          cases b with
          | false => cases h2
          | true =>
            dsimp only at h2 h3 ⊢
            have h4 := h3 rfl
            have h5 := rloop_small hrec r t' h4.1 (by omega) h2
            exact ⟨h5.1, by omega⟩
        | none =>
          rw [hk] at h2
          dsimp only at h2 ⊢
          by_cases h5 : 512 ≤ t.length
          · rw [if_pos h5] at h2; cases h2
          · rw [if_neg h5] at h2 ⊢
            have hb := belowL_le ha
            have h3 := hrec (putL t a x.name) (a + belowL t a) k (h.put ha h5) (by rw [putL_length]; omega)
            rw [putL_length] at h3
            generalize rec (putL t a x.name) (a + belowL t a) k = R at h2 h3 ⊢
            obtain ⟨t', b⟩ := R
            cases b with
            | false => cases h2
            | true =>
              dsimp only at h2 h3 ⊢
              have h4 := h3 rfl
              have h5 := rloop_small hrec r t' h4.1 (by omega) h2
              exact ⟨h5.1, by omega⟩
theorem rlay_small {pn : List Nd} : ∀ (f : Nat) (t : List Nd) (a n : Nat), Small t → a < t.length → (rlay pn f t a n).2 = true → Small (rlay pn f t a n).1 ∧ t.length ≤ (rlay pn f t a n).1.length
  | 0, t, a, n, h, _, h2 => by cases h2
  | f + 1, t, a, n, h, ha, h2 => by
    rw [rlay] at h2 ⊢
    obtain ⟨y, hy⟩ := get_lt t ha
    rw [hy] at h2 ⊢
    cases hx : pn[n]? with
    | none => rw [hx] at h2; cases h2
    | some x =>
      rw [hx] at h2
      dsimp only at h2 ⊢
      split at h2
      · cases h2
      · rename_i h3
        rw [if_neg h3]
        have := rloop_small (pn := pn) (a := a) (n := n) (rec := fun t j k => rlay pn f t j k) (fun t j k => rlay_small f t j k) ((List.range pn.length).drop (n + 1)) _ (h.set hy (by omega)) (by simpa using ha) h2
        rwa [List.length_set] at this
set_option maxHeartbeats 2000000 in
set_option maxRecDepth 4000 in
theorem layR_spec {Pp : Nat → Prop} {pv : Value} {pn : List Nd} (hpn : treeOk pn = true) : ∀ (f a n : Nat) (t : List Nd) (w : World) (Pt : Nat → Prop) (tv : Value),
    RdS rNd 3 Pt w tv t → RdS rNd 3 Pp w pv pn → Small t → a < t.length → n < pn.length → pn.length - n ≤ f →
    Calls Tryd.prog 38 #[tv, vi a, pv, vi n] w (Ret fun r w' => ∃ v' pvs', r = .tuple #[v', .bool (rlay pn f t a n).2] ∧ TrR w.heap.size w' v' (rlay pn f t a n).1 pvs' ∧ New w w') := by
  intro f
  induction f with
  | zero => intro a n t w Pt tv ht hp hs ha hn hf; omega
  | succ f ih =>
    intro a n t w Pt tv ht hp hs ha hn hf
    obtain ⟨y, hy⟩ := get_lt t ha
    obtain ⟨x, hx⟩ := get_lt pn hn
    have hxl := propsOk_len (treeOk_nd hpn hx).pr
    have hyl := hs.pr y (List.mem_of_getElem? hy)
    have hnl := treeOk_len hpn
    have hsl := hs.len
    rw [rlay, hy, hx]
    dsimp only
    generalize hps : x.props.foldl setPr y.props = ps
    have hpsl := foldl_setPr_length x.props y.props
    rw [hps] at hpsl
    obtain ⟨pa, pc, rfl, _, _⟩ := hp.form
    refine calls_of_Wc Tryd.func38 rfl Tryd.ntmps38 rfl ?_
    (repeat' (first | refine Wl.moveE (by conv => { lhs; whnf }) ?_ | refine Wl.assignE (by conv => { lhs; whnf }) ?_ | refine Wl.nil ?_ | refine Qseq.normal ?_ | refine Wc.seq ?_ | refine Wc.region ?_))
    refine Wl.call (Twin_spec ht (by omega) (fun z hz => by have := hs.pr z hz; omega)) rfl ?_
    rintro v1 w1 ⟨lab, pvs, to1, n1⟩
    have tr1 := to1.toR
    have hzl1 : (t.zip pvs).length = t.length := by simp [tr1.len]
    obtain ⟨g, gc, rfl, hgb, hgl, hob⟩ := tr1.arr.blk (by intro e; rw [e] at hzl1; simp at hzl1; omega)
    clear to1
    have hp1 := hp.keep stableNd n1.keep
    (repeat' (first | refine Wl.assignE (by conv => { lhs; whnf }) ?_ | refine Wl.nil ?_ | refine Qseq.normal ?_ | refine Wc.seq ?_))
    refine Wc.regionT rfl (by kernel_rfl) (New w1) (Chg.drew _ _) ?_
    intro w2 n2
    (repeat' (refine Wt.quiet rfl (Wq.moveE (by conv => { lhs; whnf }) (Wq.nil ?_))))
    refine Wt.quiet rfl (Wq.idxAddr tr1.rd (fun w' hw => hw.keep) rfl rfl (by omega) (by rw [Int.toNat_natCast]; exact hy) fun b o cs hl hR hat => Wq.nil ?_)
    obtain ⟨yv, rfl, hyr⟩ := hR
    (repeat' (refine Wt.quiet rfl (Wq.fieldAddr rfl rfl (Wq.nil ?_))))
    refine Wt.quiet rfl (Wq.load1 rfl (fun w' hw => (hat w' hw).get 2 rfl) (Wq.nil ?_))
    clear hat
    (repeat' (refine Wt.quiet rfl (Wq.moveE (by conv => { lhs; whnf }) (Wq.nil ?_))))
    refine Wt.quiet rfl (Wq.idxAddr hp1 (fun w' hw => hw.keep) rfl rfl (by omega) (by rw [Int.toNat_natCast]; exact hx) fun b o cs hl hR hat => Wq.nil ?_)
    obtain ⟨xv, rfl, hxr⟩ := hR
    (repeat' (refine Wt.quiet rfl (Wq.fieldAddr rfl rfl (Wq.nil ?_))))
    refine Wt.quiet rfl (Wq.load1 rfl (fun w' hw => (hat w' hw).get 2 rfl) (Wq.nil ?_))
    clear hat
    refine Wt.chain rfl (Wl.call (set_spec (hyr.keep (stable_flat pC) n2.keep) (hxr.keep (stable_flat pC) n2.keep) (by omega) (by omega)) rfl ?_)
    rintro sv w3 ⟨os3, n3⟩
    have n13 := New.trans n2 n3
    refine Wl.nil ⟨rfl, n13, ?_⟩
    rw [hps] at os3
    obtain ⟨sa, sc, rfl, hs1, hs2⟩ := os3.form
    have tr3 := tr1.new n13
    obtain ⟨qv, hqv, hzq⟩ := tr3.zip hy
    refine Wt.quiet rfl (Wq.idxP rfl rfl (by omega) (by omega) (Wq.nil ?_))
    (repeat' (refine Wt.quiet rfl (Wq.fieldAddr rfl rfl (Wq.nil ?_))))
    have z1 := n1.size
    have z2 := n2.size
    have z3 := n3.size
    refine Wt.last rfl (Wl.storeOwnF (f := ndV) (sz := 3) (o := 2) (j := a) (p := (y, qv)) (q := ({ y with props := ps }, (sa, ps.length, sc))) (u := .slice sa ps.length sc) (g := g) (cap := gc) (fun _ => rfl) (by omega) rfl hzq rfl tr3.arr rfl (by show Value.pointer (some ⟨g, 0 + (a : Int).toNat * 3 + 2, none⟩) = _; simp) rfl fun w4 o4 c4 => ?_)
    have tr4 := tr3.setAt (x' := { y with props := ps }) (q := (sa, ps.length, sc)) ha ((os3.rd (mono_flat pC)).mono (mono_flat pC) fun b _ e => by
      rcases e with e | e
      · exact ⟨by omega, fun e2 => by rw [hob] at e2; cases e2; omega⟩
      · exact e.elim) o4 c4
    have n04 : New w w4 := Chg.trans (New.trans n1 n13) c4 fun b hb e => by rw [hob] at e; cases e; omega
    clear tr3 tr1 os3 hyr hxr o4
    have ht4l : (t.set a { y with props := ps }).length = t.length := List.length_set
    have hy4 : (t.set a { y with props := ps })[a]? = some { y with props := ps } := by rw [List.getElem?_set, if_pos rfl, if_pos ha]
    generalize ht4 : t.set a { y with props := ps } = t4 at tr4 ht4l hy4
    (repeat' (first | refine Wl.moveE (by conv => { lhs; whnf }) ?_ | refine Wl.nil ?_ | refine Qseq.normal ?_ | refine Wc.seq ?_ | refine Wc.region ?_))
    refine Wl.idxAddr tr4.rd rfl rfl (by omega) (by rw [Int.toNat_natCast]; exact hy4) fun b o cs hl hR hat => ?_
    obtain ⟨v2, rfl, hpr2⟩ := hR
    replace hpr2 : RdS rPr 2 _ w4 v2 ps := hpr2
    obtain ⟨a2, c2, rfl, _, _⟩ := hpr2.form
    (repeat' (refine Wl.fieldAddr rfl rfl ?_))
    refine Wl.load1 rfl (hat.get 2 rfl) ?_
    clear hat hpr2
    (repeat' (first | refine Wl.moveE (by conv => { lhs; whnf }) ?_ | refine Wl.assignE (by conv => { lhs; whnf }) ?_ | refine Wl.nil ?_ | refine Wl.lenS rfl ?_ | refine Qseq.normal ?_ | refine Wc.seq ?_ | refine Wc.region ?_ | refine Wc.block ?_ | refine Wc.skip ?_ | refine Wc.ret ?_ | refine Qseq.ret ?_ | refine Wc.condT rfl ?_ | refine Wc.condF rfl ?_ | refine Wl.add rfl rfl (by omega) (by omega) ?_ | refine Wl.gtr rfl rfl (fun _ => ?_) (fun _ => ?_)))
    · rw [if_pos (by omega)]
      exact Qfn.ret2 rfl rfl rfl ⟨_, rfl, _, _, rfl, tr4, n04⟩
    · rw [if_neg (by omega)]
      have sm4 : Small t4 := ht4 ▸ hs.set hy (by omega)
      generalize hRr : rloop pn a n (fun t j k => rlay pn f t j k) ((List.range pn.length).drop (n + 1)) t4 = R
      refine Wc.loop (σ := Nat × Value × List Nd × List Sl) (fun s => [(0, s.2.1), (1, vi a), (2, .slice pa pn.length pc), (3, vi n), (10, vi s.1)])
        (fun s w' => n + 1 ≤ s.1 ∧ s.1 ≤ pn.length ∧ rloop pn a n (fun t j k => rlay pn f t j k) ((List.range pn.length).drop s.1) s.2.2.1 = R ∧ TrR w.heap.size w' s.2.1 s.2.2.1 s.2.2.2 ∧ Small s.2.2.1 ∧ a < s.2.2.1.length ∧ New w w') (fun s => pn.length - s.1)
        (n + 1, _, t4, _) ⟨rfl, rfl, rfl, rfl, rfl, trivial⟩ ⟨Nat.le_refl _, by dsimp only; omega, hRr, tr4, sm4, by dsimp only; omega, n04⟩ ?_
      clear tr4 hRr
      rintro ⟨k, vo, t5, qvs⟩ G w5 ⟨hk, hkl, hgo, tr5, sm5, ha5, n5⟩
      dsimp only at hk hkl hgo tr5 sm5 ha5
      simp only [upds]
      have hp5 := hp.keep stableNd n5.keep
      have hlen5 := sm5.len
      obtain ⟨oa, oc, rfl, _, _⟩ := tr5.rd.form
      (repeat' (first | refine Wl.moveE (by conv => { lhs; whnf }) ?_ | refine Wl.assignE (by conv => { lhs; whnf }) ?_ | refine Wl.nil ?_ | refine Wl.lenS rfl ?_ | refine Qseq.normal ?_ | refine Wc.seq ?_ | refine Wc.region ?_ | refine Wc.block ?_ | refine Wc.skip ?_ | refine Wc.exit ?_ | refine Wc.ret ?_ | refine Qseq.exit ?_ | refine Qblk.hit ?_ | refine Qloop.exit ?_ | refine Wc.condT rfl ?_ | refine Wc.condF rfl ?_ | refine Wl.lss rfl rfl (fun _ => ?_) (fun _ => ?_)))
      · obtain ⟨z, hz⟩ := get_lt pn (k := k) (by omega)
        rw [drop_cons (l := List.range pn.length) (i := k) (x := k) (by rw [List.getElem?_range (by omega)]), rloop, hz] at hgo
        dsimp only at hgo
        refine Wl.idxAddr hp5 rfl rfl (by omega) (by rw [Int.toNat_natCast]; exact hz) fun b o cs hl hR hat => ?_
        obtain ⟨_, rfl, _⟩ := hR
        (repeat' (refine Wl.fieldAddr rfl rfl ?_))
        refine Wl.load1 rfl (hat.get 0 rfl) ?_
        clear hat
        (repeat' (first | refine Wl.moveE (by conv => { lhs; whnf }) ?_ | refine Wl.assignE (by conv => { lhs; whnf }) ?_ | refine Wl.nil ?_ | refine Qseq.normal ?_ | refine Wc.seq ?_ | refine Wc.region ?_ | refine Wc.skip ?_ | refine Wc.exit ?_ | refine Qseq.exit ?_ | refine Qblk.hit ?_ | refine Wc.condT rfl ?_ | refine Wc.condF rfl ?_ | refine Wl.add rfl rfl (by omega) (by omega) ?_ | refine Wl.neq rfl rfl (fun _ => ?_) (fun _ => ?_)))
        · rw [if_pos (by assumption)] at hgo
          exact Qloop.normal (k + 1, _, t5, qvs) ⟨rfl, rfl, rfl, rfl, rfl, trivial⟩ ⟨by dsimp only; omega, by dsimp only; omega, hgo, tr5, sm5, ha5, n5⟩ (by dsimp only; omega)
        · rw [if_neg (by omega)] at hgo
          refine Wl.idxAddr hp5 rfl rfl (by omega) (by rw [Int.toNat_natCast]; exact hz) fun b o cs hl hR hat => ?_
          obtain ⟨_, rfl, _⟩ := hR
          (repeat' (refine Wl.fieldAddr rfl rfl ?_))
          refine Wl.load1 rfl (hat.get 1 rfl) ?_
          clear hat
          refine Wl.call (kid_spec (at_ := (a : Int)) (nm := z.name) tr5.rd) rfl ?_
          rintro _ _ ⟨rfl, rfl⟩
          cases hkid : kidL t5 (a : Int) z.name with
          | some j =>
            rw [hkid] at hgo
            dsimp only at hgo
            have hj : j < t5.length := by unfold kidL at hkid; exact (List.findIdx?_eq_some_iff_getElem.1 hkid).1
            (repeat' (first | refine Wl.moveE (by conv => { lhs; whnf }) ?_ | refine Wl.assignE (by conv => { lhs; whnf }) ?_ | refine Wl.nil ?_ | refine Qseq.normal ?_ | refine Wc.seq ?_ | refine Wc.region ?_ | refine Wc.skip ?_ | refine Wc.condF rfl ?_ | (refine Wl.lss rfl rfl (fun _ => ?_) (fun _ => ?_) <;> (first | (exfalso; contradiction) | skip))))
            refine Wl.call (ih j k t5 w5 _ _ tr5.rd hp5 sm5 hj (by omega) (by omega)) rfl ?_
            rintro _ w6 ⟨v6, pvs6, rfl, tr6, n6⟩
            have hsmall := rlay_small (pn := pn) f t5 j k sm5 hj
            generalize rlay pn f t5 j k = RR at hgo tr6 hsmall ⊢
            obtain ⟨t6, ok⟩ := RR
            cases ok with
            | false =>
              dsimp only at hgo tr6
              subst hgo
              (repeat' (first | refine Wl.moveE (by conv => { lhs; whnf }) ?_ | refine Wl.assignE (by conv => { lhs; whnf }) ?_ | refine Wl.nil ?_ | refine Wl.extract rfl rfl ?_ | refine Wl.notB rfl ?_ | refine Qseq.normal ?_ | refine Wc.seq ?_ | refine Wc.region ?_ | refine Wc.ret ?_ | refine Qseq.ret ?_ | refine Qblk.ret ?_ | refine Qloop.ret ?_ | refine Wc.condT rfl ?_))
              exact Qfn.ret2 rfl rfl rfl ⟨_, rfl, _, pvs6, rfl, tr6.low n5.size, New.trans n5 n6⟩
            | true =>
              dsimp only at hgo tr6 hsmall
              have hs6 := hsmall rfl
              (repeat' (first | refine Wl.moveE (by conv => { lhs; whnf }) ?_ | refine Wl.assignE (by conv => { lhs; whnf }) ?_ | refine Wl.nil ?_ | refine Wl.extract rfl rfl ?_ | refine Wl.notB rfl ?_ | refine Qseq.normal ?_ | refine Wc.seq ?_ | refine Wc.region ?_ | refine Wc.skip ?_ | refine Qblk.normal ?_ | refine Wc.condF rfl ?_ | refine Wl.add rfl rfl (by omega) (by omega) ?_))
              exact Qloop.normal (k + 1, v6, t6, pvs6) ⟨rfl, rfl, rfl, rfl, rfl, trivial⟩ ⟨by dsimp only; omega, by dsimp only; omega, hgo, tr6.low n5.size, hs6.1, by dsimp only; omega, New.trans n5 n6⟩ (by dsimp only; omega)
          | none =>
            rw [hkid] at hgo
            dsimp only at hgo
            (repeat' (first | refine Wl.moveE (by conv => { lhs; whnf }) ?_ | refine Wl.assignE (by conv => { lhs; whnf }) ?_ | refine Wl.nil ?_ | refine Wl.lenS rfl ?_ | refine Qseq.normal ?_ | refine Wc.seq ?_ | refine Wc.region ?_ | refine Wc.skip ?_ | refine Wc.ret ?_ | refine Qseq.ret ?_ | refine Qblk.ret ?_ | refine Qloop.ret ?_ | refine Wc.condT rfl ?_ | refine Wc.condF rfl ?_ | (refine Wl.lss rfl rfl (fun _ => ?_) (fun _ => ?_) <;> (first | (exfalso; contradiction) | skip)) | refine Wl.geq rfl rfl (fun _ => ?_) (fun _ => ?_)))
            · rw [if_pos (by omega)] at hgo
              subst hgo
              exact Qfn.ret2 rfl rfl rfl ⟨_, rfl, _, qvs, rfl, tr5, n5⟩
            · rw [if_neg (by omega)] at hgo
              refine Wl.idxAddr hp5 rfl rfl (by omega) (by rw [Int.toNat_natCast]; exact hz) fun b o cs hl hR hat => ?_
              obtain ⟨_, rfl, _⟩ := hR
              (repeat' (refine Wl.fieldAddr rfl rfl ?_))
              refine Wl.load1 rfl (hat.get 1 rfl) ?_
              clear hat
              refine Wl.call (put_spec (nm := z.name) tr5 n5.size ha5 (by omega) (fun q hq => by have := sm5.par q hq; omega)) rfl ?_
              rintro _ w6 ⟨v6, pvs6, rfl, tr6, n6⟩
              have n56 := New.trans n5 n6
              have hb := belowL_le ha5
              have hpl := putL_length t5 a z.name
              have sm6 := sm5.put (nm := z.name) ha5 (by omega)
              generalize putL t5 a z.name = t6 at hgo tr6 hpl sm6
              generalize a + belowL t5 a = j at hgo hb
              (repeat' (first | refine Wl.moveE (by conv => { lhs; whnf }) ?_ | refine Wl.assignE (by conv => { lhs; whnf }) ?_ | refine Wl.nil ?_ | refine Wl.extract rfl rfl ?_ | refine Qseq.normal ?_ | refine Wc.seq ?_ | refine Wc.region ?_))
              refine Wl.call (ih j k t6 w6 _ _ tr6.rd (hp5.keep stableNd n6.keep) sm6 (by omega) (by omega) (by omega)) rfl ?_
              rintro _ w7 ⟨v7, pvs7, rfl, tr7, n7⟩
              have hsmall := rlay_small (pn := pn) f t6 j k sm6 (by omega)
              generalize rlay pn f t6 j k = RR at hgo tr7 hsmall ⊢
              obtain ⟨t7, ok⟩ := RR
              cases ok with
              | false =>
                dsimp only at hgo tr7
                subst hgo
                (repeat' (first | refine Wl.moveE (by conv => { lhs; whnf }) ?_ | refine Wl.assignE (by conv => { lhs; whnf }) ?_ | refine Wl.nil ?_ | refine Wl.extract rfl rfl ?_ | refine Wl.notB rfl ?_ | refine Qseq.normal ?_ | refine Wc.seq ?_ | refine Wc.region ?_ | refine Wc.ret ?_ | refine Qseq.ret ?_ | refine Qblk.ret ?_ | refine Qloop.ret ?_ | refine Wc.condT rfl ?_))
                exact Qfn.ret2 rfl rfl rfl ⟨_, rfl, _, pvs7, rfl, tr7.low n56.size, New.trans n56 n7⟩
              | true =>
                dsimp only at hgo tr7 hsmall
                have hs7 := hsmall rfl
                (repeat' (first | refine Wl.moveE (by conv => { lhs; whnf }) ?_ | refine Wl.assignE (by conv => { lhs; whnf }) ?_ | refine Wl.nil ?_ | refine Wl.extract rfl rfl ?_ | refine Wl.notB rfl ?_ | refine Qseq.normal ?_ | refine Wc.seq ?_ | refine Wc.region ?_ | refine Wc.skip ?_ | refine Qblk.normal ?_ | refine Wc.condF rfl ?_ | refine Wl.add rfl rfl (by omega) (by omega) ?_))
                exact Qloop.normal (k + 1, v7, t7, pvs7) ⟨rfl, rfl, rfl, rfl, rfl, trivial⟩ ⟨by dsimp only; omega, by dsimp only; omega, hgo, tr7.low n56.size, hs7.1, by dsimp only; omega, New.trans n56 n7⟩ (by dsimp only; omega)
      · have e : k = pn.length := by omega
        subst e
        rw [List.drop_eq_nil_of_le (by simp), rloop] at hgo
        subst hgo
        exact Qfn.ret2 rfl rfl rfl ⟨_, rfl, _, qvs, rfl, tr5, n5⟩
end Go.Proofs.YtjpebmgllfiloaaDoor

namespace Go.Proofs.YtjpebmgllfiloaaDoor
open Go Wk
open Go.RowKit (Below)
attribute [local irreducible] Go.Calls

theorem pathN_of {ν : List Nm} (h : ∀ n ∈ ν, GoodN n) : pathN (pathS ν) = some ν := by
  unfold pathN
  cases ν with
  | nil => rfl
  | cons n l =>
    have hn := h n (by simp)
    have e : pathS (n :: l) = 47 :: (n ++ l.flatMap fun n => 47 :: n) := by unfold pathS; rw [if_neg (by simp)]; rfl
    rw [e]
    have h1 : Lib.hasPrefix (47 :: (n ++ l.flatMap fun n => 47 :: n)) [47] = true := by simp [Lib.hasPrefix]
    have h2 : Lib.trimPrefix (47 :: (n ++ l.flatMap fun n => 47 :: n)) [47] = n ++ l.flatMap fun n => 47 :: n := by unfold Lib.trimPrefix; rw [h1]; rfl
    rw [if_pos h1, h2, if_neg (by simp [hn.1]), split_join l n hn.2 fun m hm => (h m (by simp [hm])).2]
theorem findM_path {t : List Nd} (ht : treeOk t = true) {s : List UInt8} : (∀ k, findM t s = some k → k < t.length ∧ pathS (nmsOf t k) = s) ∧ (∀ k, k < t.length → pathS (nmsOf t k) = s → findM t s = some k) := by
  obtain ⟨τ, rfl, hτ⟩ := treeOk_parse ht
  rw [findM_T]
  refine ⟨fun k h => ?_, fun k hk h => ?_⟩
  · cases hn : pathN s with
    | none => rw [hn] at h; cases h
    | some nms =>
      rw [hn, Option.bind_some] at h
      cases ha : atP nms τ 0 with
      | none => rw [ha] at h; cases h
      | some q =>
        obtain ⟨σ, i⟩ := q
        rw [ha] at h
        cases h
        obtain ⟨h1, h2, _⟩ := nms_atP hτ ha
        rw [flT_length, h1]
        exact ⟨h2, (pathN_S hn).symm⟩
  · subst h
    rw [flT_length] at hk
    obtain ⟨σ, ha⟩ := atP_nms hτ k hk
    rw [pathN_of fun n hn => (nmsOf_good ht k n hn).1, Option.bind_some, ha]; rfl
/-- What Lay of the references hands back. -/
def layRM (t : List Nd) (p : Pc) : List Nd × Int :=
  if treeOk t = true then
    (if pieceOk p = true then
      (match findM t p.target with
      | none => ([], 51)
      | some i => (match t[i]? with
        | none => ([], 51)
        | some x => (match rlay p.nodes p.nodes.length (t.set i { x with props := dropPr p.drop x.props }) i 0 with
          | (u, true) => if treeOk u = true then (u, 0) else ([], 40)
          | (_, false) => ([], 40))))
    else ([], 50))
  else ([], 40)
theorem TrR.nil {lo : Nat} {w : World} : TrR lo w (.slice none 0 0) [] [] := ⟨rfl, OwnS.nil, fun i x pv h => by simp at h⟩
theorem small_ok {t : List Nd} (h : treeOk t = true) : Small t := by
  refine ⟨treeOk_len h, fun x hx => ?_, fun x hx => ?_⟩
  · obtain ⟨i, hi⟩ := List.mem_iff_getElem?.1 hx
    have h1 := treeOk_nd h hi
    have h2 := (List.getElem?_eq_some_iff.1 hi).1
    by_cases h0 : i = 0
    · have := (h1.root h0).1; omega
    · have := (h1.kid h0).2.1; omega
  · obtain ⟨i, hi⟩ := List.mem_iff_getElem?.1 hx
    exact propsOk_len (treeOk_nd h hi).pr
theorem dropPr_snoc {D : List (List UInt8)} {l : List Pr} {i : Nat} {p : Pr} (h : l[i]? = some p) : dropPr D (l.take (i + 1)) = if D.contains p.1 = true then dropPr D (l.take i) else dropPr D (l.take i) ++ [p] := by
  unfold dropPr
  rw [take_snoc h, List.filter_append]
  cases hc : D.contains p.1
  · simp only [List.filter_cons, hc, Bool.not_false, if_true, List.filter_nil, Bool.false_eq_true, if_false]
  · simp only [List.filter_cons, hc, Bool.not_true, if_true, List.filter_nil, Bool.false_eq_true, if_false, List.append_nil]
theorem dropPr_len (D : List (List UInt8)) (l : List Pr) : (dropPr D l).length ≤ l.length := List.length_filter_le _ _
set_option maxHeartbeats 2000000 in
set_option maxRecDepth 4000 in
theorem LayR_spec {Pb : Nat → Prop} {w : World} {tv nv dv : Value} {t : List Nd} {p : Pc} (ht : RdS rNd 3 Pb w tv t) (hn : RdS rNd 3 Pb w nv p.nodes) (hd : RdS (one vs) 1 Pb w dv p.drop) :
    Calls Tryd.prog 11 #[tv, .agg #[vs p.target, nv, dv]] w (Ret fun r w' => ∃ v pvs, r = .tuple #[v, vi (layRM t p).2] ∧ New w w' ∧ TrR w.heap.size w' v (layRM t p).1 pvs) := by
  obtain ⟨ta, tc, rfl, htc1, htc2⟩ := ht.form
  obtain ⟨na, nc, rfl, _, _⟩ := hn.form
  obtain ⟨da, dc, rfl, hdc1, hdc2⟩ := hd.form
  simp only [maxLen] at hdc2
  refine calls_of_Wc Tryd.func11 rfl Tryd.ntmps11 rfl ?_
  (repeat' (first | refine Wc.seq ?_ | refine Wc.region ?_))
  refine Wl.box rfl fun w1 b1 n1 s1 => ?_
  replace b1 : Bk w1 w.heap.size 25 [vs p.target, .slice na p.nodes.length nc, .slice da p.drop.length dc] := b1
  (repeat' (first | refine Wl.moveE (by conv => { lhs; whnf }) ?_ | refine Wl.assignE (by conv => { lhs; whnf }) ?_ | refine Wl.nil ?_ | refine Qseq.normal ?_ | refine Wc.seq ?_ | refine Wc.region ?_))
  refine Wl.call (mayR_spec (ht.keep stableNd n1.keep)) rfl ?_
  rintro _ w2 ⟨rfl, n2⟩
  replace b1 := b1.chg n2 id
  replace n2 := New.trans n1 n2
  unfold layRM
  cases hok : treeOk t with
  | false =>
    rw [if_neg (by simp)]
    (repeat' (first | refine Wl.assignE (by conv => { lhs; whnf }) ?_ | refine Wl.nil ?_ | refine Wl.notB rfl ?_ | refine Qseq.normal ?_ | refine Wc.seq ?_ | refine Wc.region ?_ | refine Wc.ret ?_ | refine Qseq.ret ?_ | refine Wc.condT rfl ?_))
    exact Qfn.ret2 rfl rfl rfl ⟨_, rfl, _, [], rfl, n2, TrR.nil⟩
  | true =>
    rw [if_pos rfl]
    have htl := treeOk_len hok
    (repeat' (first | refine Wl.nil ?_ | refine Wl.notB rfl ?_ | refine Qseq.normal ?_ | refine Wc.seq ?_ | refine Wc.region ?_ | refine Wc.skip ?_ | refine Wc.condF rfl ?_))
    refine Wl.loadB b1 rfl rfl ?_
    refine Wl.call (CheckPR_spec (p := p) (hn.keep stableNd n2.keep) (hd.keep (stable_one _) n2.keep)) rfl ?_
    rintro _ w3 ⟨rfl, n3⟩
    replace b1 := b1.chg n3 id
    replace n3 := New.trans n2 n3
    unfold pieceE
    cases hpk : pieceOk p with
    | false =>
      rw [if_neg (by simp), if_neg (by simp)]
      (repeat' (first | refine Wl.assignE (by conv => { lhs; whnf }) ?_ | refine Wl.nil ?_ | refine Qseq.normal ?_ | refine Wc.seq ?_ | refine Wc.region ?_ | refine Wc.ret ?_ | refine Qseq.ret ?_ | refine Wc.condT rfl ?_ | (refine Wl.neq rfl rfl (fun _ => ?_) (fun _ => ?_) <;> (first | (exfalso; omega) | skip))))
      exact Qfn.ret2 rfl rfl rfl ⟨_, rfl, _, [], rfl, n3, TrR.nil⟩
    | true =>
      rw [if_pos rfl, if_pos rfl]
      have hpn := pieceOk_nodes hpk
      have hpp := treeOk_pos hpn
      have hpl := treeOk_len hpn
      (repeat' (first | refine Wl.assignE (by conv => { lhs; whnf }) ?_ | refine Wl.nil ?_ | refine Qseq.normal ?_ | refine Wc.seq ?_ | refine Wc.region ?_ | refine Wc.block ?_ | refine Wc.skip ?_ | refine Wc.condF rfl ?_ | (refine Wl.neq rfl rfl (fun _ => ?_) (fun _ => ?_) <;> (first | (exfalso; omega) | skip))))
      refine Wc.loop (σ := Nat × Int) (fun s => [(0, .slice ta t.length tc), (3, ptrV w.heap.size), (6, vi s.2), (7, vi s.1)])
        (fun s w' => s.1 ≤ t.length ∧ ((s.2 = -1 ∧ ∀ j, j < s.1 → pathS (nmsOf t j) ≠ p.target) ∨ ∃ j : Nat, s.2 = j ∧ j < s.1 ∧ pathS (nmsOf t j) = p.target) ∧ Bk w' w.heap.size 25 [vs p.target, .slice na p.nodes.length nc, .slice da p.drop.length dc] ∧ New w w') (fun s => t.length - s.1)
        (0, -1) ⟨rfl, rfl, rfl, rfl, trivial⟩ ⟨Nat.zero_le _, .inl ⟨rfl, fun j hj => by omega⟩, b1, n3⟩ ?_
      rintro ⟨i, z⟩ G w4 ⟨hi, hz, b4, n4⟩
      dsimp only at hi hz
      simp only [upds]
      (repeat' (first | refine Wl.moveE (by conv => { lhs; whnf }) ?_ | refine Wl.assignE (by conv => { lhs; whnf }) ?_ | refine Wl.nil ?_ | refine Wl.lenS rfl ?_ | refine Qseq.normal ?_ | refine Wc.seq ?_ | refine Wc.region ?_ | refine Wc.block ?_ | refine Wc.skip ?_ | refine Wc.exit ?_ | refine Wc.ret ?_ | refine Qseq.exit ?_ | refine Qseq.ret ?_ | refine Qblk.hit ?_ | refine Qloop.exit ?_ | refine Wc.condT rfl ?_ | refine Wc.condF rfl ?_ | refine Wl.lss rfl rfl (fun _ => ?_) (fun _ => ?_)))
      · refine Wc.regionT rfl (by kernel_rfl) (New w4) (Chg.drew _ _) ?_
        intro w5 n5
        (repeat' (refine Wt.quiet rfl (Wq.moveE (by conv => { lhs; whnf }) (Wq.nil ?_))))
        refine Wt.chain rfl (Wl.call (Path_spec hok i (by omega) w5 ((ht.keep stableNd n4.keep).keep stableNd n5.keep)) rfl ?_)
        rintro _ w6 ⟨rfl, n6⟩
        have n46 := New.trans n5 n6
        refine Wl.nil ⟨rfl, n46, ?_⟩
        (repeat' (refine Wt.quiet rfl (Wq.fieldAddr rfl rfl (Wq.nil ?_))))
        refine Wt.quiet rfl (Wq.load1 rfl (fun w' hw => (b4.chg hw id).cell (o := 0) rfl) (Wq.nil ?_))
        (repeat' (first | refine Wt.nil ?_ | refine Wt.quiet rfl (Wq.seql rfl rfl (fun _ => Wq.nil ?_) (fun _ => Wq.nil ?_))))
        · (repeat' (first | refine Wl.moveE (by conv => { lhs; whnf }) ?_ | refine Wl.assignE (by conv => { lhs; whnf }) ?_ | refine Wl.nil ?_ | refine Qseq.normal ?_ | refine Wc.region ?_ | refine Qblk.normal ?_ | refine Wc.condT rfl ?_ | refine Wl.add rfl rfl (by omega) (by omega) ?_))
          exact Qloop.normal (i + 1, (i : Int)) ⟨rfl, rfl, rfl, rfl, trivial⟩ ⟨by dsimp only; omega, .inr ⟨i, rfl, by dsimp only; omega, by assumption⟩, b4.chg n46 id, New.trans n4 n46⟩ (by dsimp only; omega)
        · (repeat' (first | refine Wl.moveE (by conv => { lhs; whnf }) ?_ | refine Wl.assignE (by conv => { lhs; whnf }) ?_ | refine Wl.nil ?_ | refine Qseq.normal ?_ | refine Wc.region ?_ | refine Wc.skip ?_ | refine Qblk.normal ?_ | refine Wc.condF rfl ?_ | refine Wl.add rfl rfl (by omega) (by omega) ?_))
          refine Qloop.normal (i + 1, z) ⟨rfl, rfl, rfl, rfl, trivial⟩ ⟨by dsimp only; omega, ?_, b4.chg n46 id, New.trans n4 n46⟩ (by dsimp only; omega)
          rcases hz with ⟨e, hz⟩ | ⟨j, e, hj, hz⟩
          · refine .inl ⟨e, fun j hj => ?_⟩
            rcases Nat.lt_succ_iff_lt_or_eq.1 hj with h | rfl
            · exact hz j h
            · assumption
          · exact .inr ⟨j, e, by dsimp only; omega, hz⟩
      · -- none
        have hfm : findM t p.target = none := by
          rcases hz with ⟨e, hz⟩ | ⟨j, e, hj, hz⟩
          · cases hf : findM t p.target with
            | none => rfl
            | some k => have := (findM_path hok).1 k hf; exact absurd this.2 (hz k (by omega))
          · omega
        rw [hfm]
        exact Qfn.ret2 rfl rfl rfl ⟨_, rfl, _, [], rfl, n4, TrR.nil⟩
      · obtain ⟨k, rfl, hk, hz⟩ : ∃ j : Nat, z = j ∧ j < t.length ∧ pathS (nmsOf t j) = p.target := by
          rcases hz with ⟨e, hz⟩ | ⟨j, e, hj, hz⟩
          · omega
          · exact ⟨j, e, by omega, hz⟩
        obtain ⟨x, hx⟩ := get_lt t hk
        rw [(findM_path hok).2 k hk hz]
        dsimp only
        rw [hx]
        dsimp only
        have hsm := small_ok hok
        have hxl := hsm.pr x (List.mem_of_getElem? hx)
        refine Wl.call (Twin_spec (ht.keep stableNd n4.keep) (by omega) (fun q hq => by have := hsm.pr q hq; omega)) rfl ?_
        rintro v1 w5 ⟨lab, pvs, to5, n5⟩
        have tr5 := to5.toR.low n4.size
        have b5 := b4.chg n5 id
        have n05 := New.trans n4 n5
        have hzl : (t.zip pvs).length = t.length := by simp [tr5.len]
        obtain ⟨g, gc, rfl, hgb, hgl, hob⟩ := to5.toR.arr.blk (by intro e; rw [e] at hzl; simp at hzl; omega)
        clear to5 hz
        (repeat' (first | refine Wl.assignE (by conv => { lhs; whnf }) ?_ | refine Wl.nil ?_ | refine Qseq.normal ?_ | refine Wc.seq ?_ | refine Wc.region ?_ | refine Wc.block ?_))
        refine Wc.loop (σ := Nat × Value) (fun s => [(3, ptrV w.heap.size), (6, vi k), (8, .slice (some ⟨g, 0, none⟩) (t.zip pvs).length gc), (9, s.2), (10, vi s.1)])
          (fun s w' => s.1 ≤ x.props.length ∧ OwnPr (fun b => w5.heap.size ≤ b) w' s.2 (dropPr p.drop (x.props.take s.1)) ∧ New w5 w') (fun s => x.props.length - s.1) (0, .slice none 0 0) ⟨rfl, rfl, rfl, rfl, rfl, trivial⟩ ⟨Nat.zero_le _, OwnS.nil, Chg.refl _ _⟩ ?_
        rintro ⟨i, lv⟩ G w6 ⟨hi, ol6, n6⟩
        dsimp only at hi ol6
        simp only [upds]
        have tr6 := tr5.new n6
        have b6 := b5.chg n6 id
        have n06 := New.trans n05 n6
        have hd6 := hd.keep (stable_one _) n06.keep
        have hdl6 : (dropPr p.drop (x.props.take i)).length ≤ i := by
          have := List.length_filter_le (fun y : Pr => !p.drop.contains y.1) (x.props.take i)
          rw [List.length_take] at this
          unfold dropPr; omega
        (repeat' (first | refine Wl.moveE (by conv => { lhs; whnf }) ?_ | refine Wc.seq ?_ | refine Wc.region ?_))
        refine Wl.idxAddr tr6.rd rfl rfl (by omega) (by rw [Int.toNat_natCast]; exact hx) fun b o cs hl hR hat => ?_
        obtain ⟨xv, rfl, hxr⟩ := hR
        obtain ⟨xa, xc, rfl, _, _⟩ := hxr.form
        (repeat' (refine Wl.fieldAddr rfl rfl ?_))
        refine Wl.load1 rfl (hat.get 2 rfl) ?_
        clear hat
        (repeat' (first | refine Wl.moveE (by conv => { lhs; whnf }) ?_ | refine Wl.assignE (by conv => { lhs; whnf }) ?_ | refine Wl.nil ?_ | refine Wl.lenS rfl ?_ | refine Qseq.normal ?_ | refine Wc.seq ?_ | refine Wc.region ?_ | refine Wc.block ?_ | refine Wc.skip ?_ | refine Wc.exit ?_ | refine Qseq.exit ?_ | refine Qblk.hit ?_ | refine Qloop.exit ?_ | refine Wc.condT rfl ?_ | refine Wc.condF rfl ?_ | refine Wl.lss rfl rfl (fun _ => ?_) (fun _ => ?_)))
        · obtain ⟨y, hy⟩ := get_lt x.props (k := i) (by omega)
          refine Wc.loop (σ := Nat) (fun m => [(3, ptrV w.heap.size), (6, vi k), (8, .slice (some ⟨g, 0, none⟩) (t.zip pvs).length gc), (9, lv), (10, vi i), (11, .bool ((p.drop.take m).contains y.1)), (12, vi m)])
            (fun m w' => m ≤ p.drop.length ∧ New w6 w') (fun m => p.drop.length - m) 0 ⟨rfl, rfl, rfl, rfl, rfl, rfl, rfl, trivial⟩ ⟨Nat.zero_le _, Chg.refl _ _⟩ ?_
          rintro m G w7 ⟨hm, n7⟩
          simp only [upds]
          have tr7 := tr6.new n7
          have b7 := b6.chg n7 id
          have hd7 := hd6.keep (stable_one _) n7.keep
          (repeat' (first | refine Wl.moveE (by conv => { lhs; whnf }) ?_ | refine Wc.seq ?_ | refine Wc.region ?_ | refine Wl.fieldAddr rfl rfl ?_))
          refine Wl.load1 rfl (b7.cell (o := 2) rfl) ?_
          (repeat' (first | refine Wl.moveE (by conv => { lhs; whnf }) ?_ | refine Wl.nil ?_ | refine Wl.notB rfl ?_ | refine Wl.lenS rfl ?_ | refine Qseq.normal ?_ | refine Wc.seq ?_ | refine Wc.region ?_ | refine Wc.block ?_ | refine Wc.skip ?_ | refine Wc.exit ?_ | refine Qseq.exit ?_ | refine Qblk.hit ?_ | refine Qloop.exit ?_ | refine Wc.condT rfl ?_ | refine Wc.condF rfl ?_ | refine Wl.lss rfl rfl (fun _ => ?_) (fun _ => ?_)))
          · obtain ⟨d, hdm⟩ := get_lt p.drop (k := m) (by omega)
            have hstep : (p.drop.take (m + 1)).contains y.1 = ((p.drop.take m).contains y.1 || decide (d = y.1)) := by
              rw [take_snoc hdm, Bool.eq_iff_iff]
              simp only [List.contains_iff_mem, List.mem_append, List.mem_singleton, Bool.or_eq_true, decide_eq_true_eq]
              exact ⟨fun h => h.imp id Eq.symm, fun h => h.imp id Eq.symm⟩
            cases hc : (p.drop.take m).contains y.1 with
            | true =>
              refine Wc.regionN rfl (by kernel_rfl) ?_
              (repeat' (first | refine Wq.moveE (by conv => { lhs; whnf }) ?_ | refine Wq.assignE (by conv => { lhs; whnf }) ?_ | refine Wq.nil ?_ | refine Wq.guardN rfl rfl ?_ | refine Wq.pickTE rfl (by conv => { lhs; whnf }) ?_))
              intro w8 n8
              (repeat' (first | refine Wl.moveE (by conv => { lhs; whnf }) ?_ | refine Wl.assignE (by conv => { lhs; whnf }) ?_ | refine Wl.nil ?_ | refine Qseq.normal ?_ | refine Wc.region ?_ | refine Qblk.normal ?_ | refine Wl.add rfl rfl (by omega) (by omega) ?_))
              refine Qloop.normal (m + 1) ⟨rfl, rfl, rfl, rfl, rfl, ?_, rfl, trivial⟩ ⟨by omega, New.trans n7 n8⟩ (by omega)
              show Value.bool true = _
              rw [hstep, hc]; rfl
            | false =>
              rw [hc, Bool.false_or] at hstep
              refine Wc.regionN rfl (by kernel_rfl) ?_
              (repeat' (first | refine Wq.moveE (by conv => { lhs; whnf }) ?_ | refine Wq.guardY rfl rfl ?_ | refine Wq.fieldAddr rfl rfl ?_))
              refine Wq.load1 rfl (fun w' hw => (b7.chg hw id).cell (o := 2) rfl) ?_
              (repeat' (first | refine Wq.moveE (by conv => { lhs; whnf }) ?_ | refine Wq.guardY rfl rfl ?_))
              refine Wq.idxAddrV hd7 (fun w' hw => New.keep hw) rfl rfl (by omega) hdm fun b o hcell => ?_
              (repeat' (refine Wq.guardY rfl rfl ?_))
              refine Wq.load1 rfl hcell ?_
              (repeat' (first | refine Wq.moveE (by conv => { lhs; whnf }) ?_ | refine Wq.guardY rfl rfl ?_))
              refine Wq.idxAddr tr7.rd (fun w' hw => New.keep hw) rfl rfl (by omega) (by rw [Int.toNat_natCast]; exact hx) fun b o cs hl hR hat => ?_
              obtain ⟨xv, rfl, hxr⟩ := hR
              obtain ⟨xa, xc, rfl, _, _⟩ := hxr.form
              (repeat' (first | refine Wq.guardY rfl rfl ?_ | refine Wq.fieldAddr rfl rfl ?_))
              refine Wq.load1 rfl (fun w' hw => (hat w' hw).get 2 rfl) ?_
              clear hat
              (repeat' (first | refine Wq.moveE (by conv => { lhs; whnf }) ?_ | refine Wq.guardY rfl rfl ?_))
              refine Wq.idxAddr hxr (fun w' hw => New.keep hw) rfl rfl (by omega) (by rw [Int.toNat_natCast]; exact hy) fun b o cs hl hR hat => ?_
              obtain rfl : cs = pC y := hR
              (repeat' (first | refine Wq.guardY rfl rfl ?_ | refine Wq.fieldAddr rfl rfl ?_))
              refine Wq.load1 rfl (fun w' hw => (hat w' hw).get 0 rfl) ?_
              clear hat
              (repeat' (first | refine Wq.assignE (by conv => { lhs; whnf }) ?_ | refine Wq.nil ?_ | refine Wq.guardY rfl rfl ?_ | refine Wq.pickFE rfl (by conv => { lhs; whnf }) ?_ | refine Wq.seql rfl rfl (fun _ => ?_) (fun _ => ?_)))
              · intro w8 n8
                (repeat' (first | refine Wl.moveE (by conv => { lhs; whnf }) ?_ | refine Wl.assignE (by conv => { lhs; whnf }) ?_ | refine Wl.nil ?_ | refine Qseq.normal ?_ | refine Wc.region ?_ | refine Qblk.normal ?_ | refine Wl.add rfl rfl (by omega) (by omega) ?_))
                refine Qloop.normal (m + 1) ⟨rfl, rfl, rfl, rfl, rfl, ?_, rfl, trivial⟩ ⟨by omega, New.trans n7 n8⟩ (by omega)
                show Value.bool true = _
                rw [hstep, decide_eq_true (by assumption)]
              · intro w8 n8
                (repeat' (first | refine Wl.moveE (by conv => { lhs; whnf }) ?_ | refine Wl.assignE (by conv => { lhs; whnf }) ?_ | refine Wl.nil ?_ | refine Qseq.normal ?_ | refine Wc.region ?_ | refine Qblk.normal ?_ | refine Wl.add rfl rfl (by omega) (by omega) ?_))
                refine Qloop.normal (m + 1) ⟨rfl, rfl, rfl, rfl, rfl, ?_, rfl, trivial⟩ ⟨by omega, New.trans n7 n8⟩ (by omega)
                show Value.bool false = _
                rw [hstep, decide_eq_false (by assumption)]
          · have e : m = p.drop.length := by omega
            subst e
            have hsn := dropPr_snoc (D := p.drop) hy
            have n57 := New.trans n6 n7
            have ol7 := ol6.new plainPr n7
            have s6 := n6.size
            have s7 := n7.size
            cases hc : (p.drop.take p.drop.length).contains y.1 with
            | true =>
              rw [List.take_length] at hc
              rw [if_pos hc] at hsn
              (repeat' (first | refine Wl.moveE (by conv => { lhs; whnf }) ?_ | refine Wl.assignE (by conv => { lhs; whnf }) ?_ | refine Wl.nil ?_ | refine Qseq.normal ?_ | refine Wc.region ?_ | refine Wc.skip ?_ | refine Qblk.normal ?_ | refine Wc.condF rfl ?_ | refine Wl.add rfl rfl (by omega) (by omega) ?_))
              exact Qloop.normal (i + 1, lv) ⟨rfl, rfl, rfl, rfl, rfl, trivial⟩ ⟨by dsimp only; omega, by dsimp only; rw [hsn]; exact ol7, n57⟩ (by dsimp only; omega)
            | false =>
              rw [List.take_length] at hc
              rw [hc, if_neg (by simp)] at hsn
              (repeat' (first | refine Wl.moveE (by conv => { lhs; whnf }) ?_ | refine Wc.region ?_ | refine Wc.condT rfl ?_))
              refine Wl.idxAddr tr7.rd rfl rfl (by omega) (by rw [Int.toNat_natCast]; exact hx) fun b o cs hl hR hat => ?_
              obtain ⟨xv, rfl, hxr⟩ := hR
              obtain ⟨xa, xc, rfl, _, _⟩ := hxr.form
              (repeat' (refine Wl.fieldAddr rfl rfl ?_))
              refine Wl.load1 rfl (hat.get 2 rfl) ?_
              clear hat
              (repeat' (refine Wl.moveE (by conv => { lhs; whnf }) ?_))
              refine Wl.idxAddr hxr rfl rfl (by omega) (by rw [Int.toNat_natCast]; exact hy) fun b o cs hl hR hat => ?_
              obtain rfl : cs = pC y := hR
              refine Wl.loadAt hat rfl rfl ?_
              clear hat
              refine Wl.append1 (R := rPr) (y := y) goodPr ol7 rfl rfl rfl rfl rfl (by omega) (by omega) (by simp only [maxLen]; omega) (by omega) rfl rfl fun lv' w8 q ol8 c8 lie => ?_
              (repeat' (first | refine Wl.moveE (by conv => { lhs; whnf }) ?_ | refine Wl.assignE (by conv => { lhs; whnf }) ?_ | refine Wl.nil ?_ | refine Qseq.normal ?_ | refine Wc.region ?_ | refine Qblk.normal ?_ | refine Wl.add rfl rfl (by omega) (by omega) ?_))
              refine Qloop.normal (i + 1, lv') ⟨rfl, rfl, rfl, rfl, rfl, trivial⟩ ⟨by dsimp only; omega, ?_, Chg.trans n57 c8 fun b hb e => by have := (ol7.lt e).1; omega⟩ (by dsimp only; omega)
              dsimp only
              rw [hsn]
              exact ol8.reblk fun b _ e => by rcases e with e | e <;> omega
        · have e : i = x.props.length := by omega
          subst e
          rw [List.take_length] at ol6
          have hdl := dropPr_len p.drop x.props
          obtain ⟨la, lc, rfl, _, _⟩ := ol6.form
          obtain ⟨qv, hqv, hzq⟩ := tr6.zip hx
          have s5 := n5.size
          have s6 := n6.size
          skip
          refine Wl.idxP rfl rfl (by omega) (by omega) ?_
          (repeat' (refine Wl.fieldAddr rfl rfl ?_))
          refine Wl.storeOwnF (f := ndV) (sz := 3) (o := 2) (j := k) (p := (x, qv)) (q := ({ x with props := dropPr p.drop x.props }, (la, (dropPr p.drop x.props).length, lc))) (u := .slice la (dropPr p.drop x.props).length lc) (g := g) (cap := gc) (fun _ => rfl) (by omega) rfl hzq rfl tr6.arr rfl (by show Value.pointer (some ⟨g, 0 + (k : Int).toNat * 3 + 2, none⟩) = _; simp) rfl fun w7 o7 c7 => ?_
          have tr7 := tr6.setAt (x' := { x with props := dropPr p.drop x.props }) (q := (la, (dropPr p.drop x.props).length, lc)) hk ((ol6.rd (mono_flat pC)).mono (mono_flat pC) fun b _ e => by
            rcases e with e | e
            · exact ⟨by have := n4.size; omega, fun e2 => by rw [hob] at e2; cases e2; omega⟩
            · exact e.elim) o7 c7
          have b7 := b6.chg c7 (fun e => by rw [hob] at e; cases e; have := b4.lt; omega)
          have n07 : New w w7 := Chg.trans n06 c7 fun b hb e => by rw [hob] at e; cases e; have := n4.size; omega
          have sm7 := hsm.set (ps := dropPr p.drop x.props) hx (by omega)
          have hk7 : k < (t.set k { x with props := dropPr p.drop x.props }).length := by simpa using hk
          generalize t.set k { x with props := dropPr p.drop x.props } = t7 at tr7 sm7 hk7 ⊢
          clear tr6 tr5 ol6 o7
          (repeat' (first | refine Wl.moveE (by conv => { lhs; whnf }) ?_ | refine Wl.nil ?_ | refine Qseq.normal ?_ | refine Wc.seq ?_ | refine Wc.region ?_ | refine Wl.fieldAddr rfl rfl ?_))
          refine Wl.load1 rfl (b7.cell (o := 1) rfl) ?_
          have hcall := layR_spec hpn p.nodes.length k 0 t7 w7 _ _ tr7.rd (hn.keep stableNd n07.keep) sm7 hk7 hpp (by omega)
          rw [show ((0 : Nat) : Int) = 0 from rfl] at hcall
          refine Wl.call hcall rfl ?_
          rintro _ w8 ⟨v8, pvs8, rfl, tr8, n8⟩
          have n08 := New.trans n07 n8
          have tr8' := tr8.low n07.size
          generalize rlay p.nodes p.nodes.length t7 k 0 = R at tr8' ⊢
          obtain ⟨u, ok⟩ := R
          cases ok with
          | false =>
            dsimp only
            (repeat' (first | refine Wl.moveE (by conv => { lhs; whnf }) ?_ | refine Wl.assignE (by conv => { lhs; whnf }) ?_ | refine Wl.nil ?_ | refine Wl.extract rfl rfl ?_ | refine Wl.guardN rfl rfl ?_ | refine Wl.pickTE rfl (by conv => { lhs; whnf }) ?_ | refine Wl.notB rfl ?_ | refine Qseq.normal ?_ | refine Wc.seq ?_ | refine Wc.region ?_ | refine Wc.ret ?_ | refine Qseq.ret ?_ | refine Wc.condT rfl ?_))
            exact Qfn.ret2 rfl rfl rfl ⟨_, rfl, _, [], rfl, n08, TrR.nil⟩
          | true =>
            dsimp only at tr8' ⊢
            (repeat' (first | refine Wl.moveE (by conv => { lhs; whnf }) ?_ | refine Wl.assignE (by conv => { lhs; whnf }) ?_ | refine Wl.nil ?_ | refine Wl.extract rfl rfl ?_ | refine Wl.guardY rfl rfl ?_ | refine Wl.notB rfl ?_ | refine Qseq.normal ?_ | refine Wc.seq ?_ | refine Wc.region ?_))
            refine Wl.call (mayR_spec tr8'.rd) rfl ?_
            rintro _ w9 ⟨rfl, n9⟩
            have n09 := New.trans n08 n9
            cases hu : treeOk u with
            | false =>
              rw [if_neg (by simp)]
              (repeat' (first | refine Wl.assignE (by conv => { lhs; whnf }) ?_ | refine Wl.nil ?_ | refine Wl.guardY rfl rfl ?_ | refine Wl.pickFE rfl (by conv => { lhs; whnf }) ?_ | refine Wl.notB rfl ?_ | refine Qseq.normal ?_ | refine Wc.seq ?_ | refine Wc.region ?_ | refine Wc.ret ?_ | refine Qseq.ret ?_ | refine Wc.condT rfl ?_))
              exact Qfn.ret2 rfl rfl rfl ⟨_, rfl, _, [], rfl, n09, TrR.nil⟩
            | true =>
              rw [if_pos rfl]
              (repeat' (first | refine Wl.moveE (by conv => { lhs; whnf }) ?_ | refine Wl.assignE (by conv => { lhs; whnf }) ?_ | refine Wl.nil ?_ | refine Wl.guardY rfl rfl ?_ | refine Wl.pickFE rfl (by conv => { lhs; whnf }) ?_ | refine Wl.notB rfl ?_ | refine Qseq.normal ?_ | refine Wc.seq ?_ | refine Wc.region ?_ | refine Wc.skip ?_ | refine Wc.ret ?_ | refine Wc.condF rfl ?_))
              exact Qfn.ret2 rfl rfl rfl ⟨_, rfl, _, pvs8, rfl, n09, tr8'.new n9⟩
end Go.Proofs.YtjpebmgllfiloaaDoor

namespace Go.Proofs.YtjpebmgllfiloaaDoor
open Go Wk

def shN (a d : Nat) (x : Nd) : Nd := if (a : Int) ≤ x.parent then { x with parent := x.parent + d } else x
theorem shN_one (a : Nat) (x : Nd) : shN a 1 x = shP a x := rfl
theorem shN_zero (a : Nat) (x : Nd) : shN a 0 x = x := by unfold shN; split <;> simp
theorem map_shN_zero (a : Nat) (l : List Nd) : l.map (shN a 0) = l := by rw [show shN a 0 = id from funext fun x => shN_zero a x, List.map_id]
theorem flK_append : ∀ (x y : List T) (u b : Nat), flK (x ++ y) u b = flK x u b ++ flK y u (b + szK x)
  | [], y, u, b => by simp [flK, szK]
  | t :: ts, y, u, b => by simp only [List.cons_append, flK, szK, flK_append ts y, List.append_assoc, Nat.add_assoc]
def shI (a d : Nat) (u : Int) : Int := if (a : Int) ≤ u then u + d else u
mutual
theorem flT_sh (a d : Nat) : ∀ (t : T) (up : Int) (b : Nat), a ≤ b → flT t (shI a d up) (b + d) = (flT t up b).map (shN a d)
  | .mk nm ps ks, up, b, h => by
    simp only [flT, List.map_cons]
    have h2 := flK_sh a d ks b (b + 1) (by omega)
    rw [show shI a d ((b : Nat) : Int) = ((b + d : Nat) : Int) by unfold shI; rw [if_pos (by omega)]; simp] at h2
    rw [Int.toNat_natCast] at h2
    rw [show b + d + 1 = b + 1 + d by omega, h2]
    congr 1
    unfold shN shI
    split <;> rfl
theorem flK_sh (a d : Nat) : ∀ (ks : List T) (u b : Nat), a ≤ b → flK ks (shI a d (u : Int)).toNat (b + d) = (flK ks u b).map (shN a d)
  | [], u, b, _ => rfl
  | t :: ts, u, b, h => by
    simp only [flK, List.map_append]
    have e : (((shI a d (u : Int)).toNat : Nat) : Int) = shI a d (u : Int) := by unfold shI; split <;> omega
    rw [e, flT_sh a d t u b h, show b + d + szT t = b + szT t + d by omega, flK_sh a d ts u (b + szT t) (by omega)]
end
theorem flK_sh_lt {a d u : Nat} (hu : u < a) (ks : List T) (b : Nat) (h : a ≤ b) : flK ks u (b + d) = (flK ks u b).map (shN a d) := by
  have := flK_sh a d ks u b h
  rwa [show shI a d (u : Int) = (u : Int) by unfold shI; rw [if_neg (by omega)], Int.toNat_natCast] at this
/-- The list of a tree with a part of it turned. -/
theorem repl_T {ν : List Nm} : ∀ {τ σ : T} {up : Int} {b a : Nat}, up < b → atP ν τ b = some (σ, a) →
    ∃ (pre post : List Nd) (up' : Int), flT τ up b = pre ++ (flT σ up' a ++ post) ∧ pre.length + b = a ∧ up' < a ∧ (∀ x ∈ pre, x.parent < a) ∧ (∀ x ∈ post, x.parent < a ∨ (a + szT σ : Int) ≤ x.parent) ∧ (∀ x, post.head? = some x → x.parent < a) ∧
      ∀ (σ' : T) (d : Nat), szT σ' = szT σ + d → flT (updP (fun _ => σ') ν τ) up b = pre ++ (flT σ' up' a ++ post.map (shN (a + szT σ) d)) := by
  induction ν with
  | nil =>
    intro τ σ up b a hup h
    simp only [atP, Option.some.injEq, Prod.mk.injEq] at h
    obtain ⟨rfl, rfl⟩ := h
    exact ⟨[], [], up, by simp, by simp, hup, by simp, by simp, by simp, fun σ' d hd => by simp [updP]⟩
  | cons nm r ih =>
    intro τ σ up b a hup h
    cases τ with
    | mk n ps ks =>
      rw [atP] at h
      simp only [T.kids] at h
      cases hk : kidAt nm ks (b + 1) with
      | none => rw [hk] at h; cases h
      | some q =>
        rw [hk] at h
        obtain ⟨κ, c⟩ := q
        obtain ⟨k1, k2, rfl, hno, hnm, hb, h4⟩ := kidAt_split hk
        simp only at hb h hnm h4
        subst hb
        obtain ⟨pre1, post1, up1, e1, e2, e3, e4, e5, e6, e7⟩ := ih (up := (b : Int)) (by omega) h
        have hlen := congrArg List.length e1
        simp only [flT_length, List.length_append] at hlen
        have hsz := szT_pos σ
        refine ⟨⟨up, n, ps⟩ :: (flK k1 b (b + 1) ++ pre1), post1 ++ flK k2 b (b + 1 + szK k1 + szT κ), up1, ?_, ?_, e3, ?_, ?_, ?_, fun σ' d hd => ?_⟩
        · simp only [flT, flK_append, flK, e1, List.cons_append, List.append_assoc]
        · simp only [List.length_cons, List.length_append, flK_length]; omega
        · intro x hx
          simp only [List.mem_cons, List.mem_append] at hx
          rcases hx with rfl | hx | hx
          · simp only; omega
          · rcases flK_par k1 b (b + 1) (by omega) x hx with h | h <;> omega
          · exact e4 x hx
        · intro x hx
          rcases List.mem_append.1 hx with hx | hx
          · exact e5 x hx
          · rcases flK_par k2 b (b + 1 + szK k1 + szT κ) (by omega) x hx with h | h
            · left; omega
            · right; omega
        · intro x hx
          cases post1 with
          | cons y l => exact e6 x (by simpa using hx)
          | nil =>
            rw [List.nil_append] at hx
            cases k2 with
            | nil => simp [flK] at hx
            | cons t ts =>
              obtain ⟨r, hr⟩ := flT_head t (b : Int) (b + 1 + szK k1 + szT κ)
              simp only [flK, hr, List.cons_append, List.head?_cons, Option.some.injEq] at hx
              subst hx
              simp only; omega
        · have hs := (szT_upd (σ' := σ') h).1
          simp only [updP, h4, flT, flK_append, flK, e7 σ' d hd, List.map_append, List.cons_append, List.append_assoc]
          rw [show b + 1 + szK k1 + szT (updP (fun _ => σ') r κ) = b + 1 + szK k1 + szT κ + d by omega, flK_sh_lt (a := a + szT σ) (by omega) k2 _ (by omega)]

theorem kidIn_find {u : Int} {nm : List UInt8} : ∀ (l : List Nd) (i : Nat), kidIn u nm i l = (l.findIdx? fun x => decide (x.parent = u) && decide (x.name = nm)).map (· + i)
  | [], i => rfl
  | x :: l, i => by
    rw [kidIn, List.findIdx?_cons]
    by_cases h : x.parent = u ∧ x.name = nm
    · rw [if_pos h, decide_eq_true h.1, decide_eq_true h.2]; simp
    · rw [if_neg h, show (decide (x.parent = u) && decide (x.name = nm)) = false by rw [← Bool.decide_and]; exact decide_eq_false h, kidIn_find l (i + 1)]
      simp only [Bool.false_eq_true, if_false, Option.map_map]
      congr 1; funext j; simp only [Function.comp]; omega
theorem kidL_in (t : List Nd) (u : Int) (nm : List UInt8) : kidL t u nm = kidIn u nm 0 t := by
  rw [kidIn_find]; unfold kidL; simp
section
variable {ν : List Nm} {τ σ : T} {a : Nat}
theorem kidL_T (h : atP ν τ 0 = some (σ, a)) (nm : List UInt8) : kidL (flT τ (-1) 0) (a : Int) nm = (kidAt nm σ.kids (a + 1)).map (·.2) := by
  obtain ⟨pre, post, up', e1, e2, e3, e4, e5, _, _⟩ := repl_T (up := -1) (by omega) h
  cases σ with
  | mk n ps ks =>
    rw [kidL_in, e1]
    simp only [flT, T.kids, List.cons_append]
    rw [show pre ++ ⟨up', n, ps⟩ :: (flK ks a (a + 1) ++ post) = (pre ++ [⟨up', n, ps⟩]) ++ (flK ks a (a + 1) ++ post) by simp]
    rw [kidIn_skip fun x hx => by
      rcases List.mem_append.1 hx with hx | hx
      · have := e4 x hx; omega
      · simp at hx; subst hx; simp only; omega]
    rw [show 0 + (pre ++ [(⟨up', n, ps⟩ : Nd)]).length = a + 1 by simp; omega]
    exact kidIn_fl (fun x hx => by
      have := szT_pos (.mk n ps ks)
      rcases e5 x hx with h | h <;> omega) ks (a + 1) (by omega)
theorem belowL_T (h : atP ν τ 0 = some (σ, a)) : belowL (flT τ (-1) 0) a = szT σ := by
  obtain ⟨pre, post, up', e1, e2, e3, e4, e5, e6, _⟩ := repl_T (up := -1) (by omega) h
  cases σ with
  | mk n ps ks =>
    unfold belowL
    rw [e1]
    simp only [flT, List.cons_append]
    rw [show pre ++ ⟨up', n, ps⟩ :: (flK ks a (a + 1) ++ post) = (pre ++ [⟨up', n, ps⟩]) ++ (flK ks a (a + 1) ++ post) by simp]
    rw [show a + 1 = (pre ++ [(⟨up', n, ps⟩ : Nd)]).length by simp; omega, List.drop_left]
    rw [show (pre ++ [(⟨up', n, ps⟩ : Nd)]).length = a + 1 by simp; omega]
    rw [List.takeWhile_append_of_pos fun x hx => decide_eq_true (by rcases flK_par ks a (a + 1) (by omega) x hx with h | h <;> omega)]
    have hp : post.takeWhile (fun x => decide ((a : Int) ≤ x.parent)) = [] := by
      cases post with
      | nil => rfl
      | cons x l =>
        have := e6 x rfl
        rw [List.takeWhile_cons, decide_eq_false (by omega)]; rfl
    rw [hp, List.append_nil, flK_length, szT]
theorem putL_T {n : List UInt8} {ps : List Pr} {ks : List T} (h : atP ν τ 0 = some (.mk n ps ks, a)) (nm : List UInt8) : putL (flT τ (-1) 0) a nm = flT (updP (fun _ => .mk n ps (ks ++ [.mk nm [] []])) ν τ) (-1) 0 := by
  have hb := belowL_T h
  obtain ⟨pre, post, up', e1, e2, e3, e4, e5, e6, e7⟩ := repl_T (up := -1) (by omega) h
  have h7 := e7 (T.mk n ps (ks ++ [T.mk nm [] []])) 1 (by simp only [szT, szK_append, szK]; omega)
  unfold putL
  rw [hb, h7, e1]
  have hl : (pre ++ flT (.mk n ps ks) up' a).length = a + szT (.mk n ps ks) := by rw [List.length_append, flT_length]; omega
  rw [← List.append_assoc, ← hl, List.take_left, List.drop_left, hl]
  simp only [flT, flK_append, flK, List.append_assoc, List.cons_append, List.nil_append, List.append_nil]
  rfl
theorem set_T {n : List UInt8} {ps qs : List Pr} {ks : List T} (h : atP ν τ 0 = some (.mk n ps ks, a)) : ∃ up', (flT τ (-1) 0)[a]? = some ⟨up', n, ps⟩ ∧ (flT τ (-1) 0).set a ⟨up', n, qs⟩ = flT (updP (fun _ => .mk n qs ks) ν τ) (-1) 0 := by
  obtain ⟨pre, post, up', e1, e2, e3, e4, e5, e6, e7⟩ := repl_T (up := -1) (by omega) h
  refine ⟨up', ?_, ?_⟩
  · rw [e1, List.getElem?_append_right (by omega), show a - pre.length = 0 by omega]; rfl
  · rw [e7 (.mk n qs ks) 0 rfl, e1, map_shN_zero, List.set_append_right _ _ (by omega), show a - pre.length = 0 by omega]; rfl
end
theorem updP_keep {σ' : T} {ν : List Nm} : ∀ {τ σ : T} {b a : Nat}, atP ν τ b = some (σ, a) → σ'.name = σ.name → (updP (fun _ => σ') ν τ).name = τ.name := by
  intro τ σ b a h hn
  cases ν with
  | nil =>
    simp only [atP, Option.some.injEq, Prod.mk.injEq] at h
    obtain ⟨rfl, _⟩ := h
    exact hn
  | cons nm r => cases τ; rfl
theorem updP_two {σ' σ'' : T} {ν : List Nm} : ∀ {τ σ : T} {b a : Nat}, atP ν τ b = some (σ, a) → σ'.name = σ.name → updP (fun _ => σ'') ν (updP (fun _ => σ') ν τ) = updP (fun _ => σ'') ν τ ∧ atP ν (updP (fun _ => σ') ν τ) b = some (σ', a) := by
  induction ν with
  | nil =>
    intro τ σ b a h hn
    simp only [atP, Option.some.injEq, Prod.mk.injEq] at h
    obtain ⟨rfl, rfl⟩ := h
    exact ⟨rfl, rfl⟩
  | cons nm r ih =>
    intro τ σ b a h hn
    cases τ with
    | mk n p ks =>
      rw [atP] at h
      simp only [T.kids] at h
      cases hk : kidAt nm ks (b + 1) with
      | none => rw [hk] at h; cases h
      | some q =>
        rw [hk] at h
        obtain ⟨κ, c⟩ := q
        obtain ⟨k1, k2, rfl, hno, hnm, hb, h4⟩ := kidAt_split hk
        simp only at hb h hnm h4
        subst hb
        obtain ⟨i1, i2⟩ := ih h hn
        have hkn := (updP_keep (σ' := σ') h hn).trans hnm
        simp only [updP, h4, atP, T.kids]
        rw [updK_app hno hkn, i1, kidAt_app hkn hno]
        exact ⟨rfl, i2⟩
theorem updP_snoc {g : T → T} {nm : Nm} {ν : List Nm} : ∀ {τ σ : T} {b a : Nat}, atP ν τ b = some (σ, a) → updP g (ν ++ [nm]) τ = updP (fun _ => .mk σ.name σ.props (updK nm g σ.kids)) ν τ := by
  induction ν with
  | nil =>
    intro τ σ b a h
    simp only [atP, Option.some.injEq, Prod.mk.injEq] at h
    obtain ⟨rfl, rfl⟩ := h
    cases τ; rfl
  | cons m r ih =>
    intro τ σ b a h
    cases τ with
    | mk n p ks =>
      rw [atP] at h
      simp only [T.kids] at h
      cases hk : kidAt m ks (b + 1) with
      | none => rw [hk] at h; cases h
      | some q =>
        rw [hk] at h
        obtain ⟨k1, k2, rfl, hno, hnm, hb, h4⟩ := kidAt_split hk
        simp only [List.cons_append, updP, h4, ih h]
theorem rloop_skip (pn : List Nd) (a n : Nat) (rec : List Nd → Nat → Nat → List Nd × Bool) (t : List Nd) : ∀ (m q : Nat), (∀ i x, q ≤ i → i < q + m → pn[i]? = some x → x.parent ≠ (n : Int)) →
    rloop pn a n rec ((List.range pn.length).drop q) t = rloop pn a n rec ((List.range pn.length).drop (q + m)) t
  | 0, q, _ => rfl
  | m + 1, q, h => by
    by_cases hq : q < pn.length
    · obtain ⟨x, hx⟩ := get_lt pn hq
      have hdr : (List.range pn.length).drop q = q :: (List.range pn.length).drop (q + 1) := drop_cons (by rw [List.getElem?_range hq])
      rw [hdr, rloop, hx]
      dsimp only
      rw [if_pos (h q x (Nat.le_refl _) (by omega) hx), rloop_skip pn a n rec t m (q + 1) fun i x h1 h2 h3 => h i x (by omega) (by omega) h3]
      congr 2; omega
    · rw [List.drop_eq_nil_of_le (by simp; omega), List.drop_eq_nil_of_le (by simp; omega)]
mutual
theorem rlay_T {pn : List Nd} : ∀ (π : T) (n : Nat) (upn : Int) (rest : List Nd) (f : Nat) (ν : List Nm) (τ σ : T) (a : Nat), pn.drop n = flT π upn n ++ rest → Off n (szT π) rest → szT π ≤ f → atP ν τ 0 = some (σ, a) → ∀ R, rlay pn f (flT τ (-1) 0) a n = R →
    (R.2 = true → R.1 = flT (updP (fun _ => layT π σ) ν τ) (-1) 0) ∧ (R.2 = false → bigT (layT π σ) = true ∨ 512 < szT (updP (fun _ => layT π σ) ν τ))
  | .mk pnm qs js, n, upn, rest, 0, ν, τ, σ, a, hpn, hoff, hf, hat, R, hR => by simp only [szT] at hf; omega
  | .mk pnm qs js, n, upn, rest, f + 1, ν, τ, σ, a, hpn, hoff, hf, hat, R, hR => by
    cases σ with
    | mk nm ps ks =>
      simp only [szT] at hf hoff
      have hx : pn[n]? = some ⟨upn, pnm, qs⟩ := get_flT hpn
      have hpn1 : pn.drop (n + 1) = flK js n (n + 1) ++ rest := drop_sub (r1 := [⟨upn, pnm, qs⟩]) (n := 1) (by simpa [flT] using hpn) rfl
      obtain ⟨up', h1, h2⟩ := set_T (qs := qs.foldl setPr ps) hat
      rw [rlay, h1, hx] at hR
      dsimp only at hR
      rw [h2] at hR
      have htw : ∀ σ'', updP (fun _ => σ'') ν (updP (fun _ => .mk nm (qs.foldl setPr ps) ks) ν τ) = updP (fun _ => σ'') ν τ := fun σ'' => (updP_two (σ' := .mk nm (qs.foldl setPr ps) ks) (σ'' := σ'') hat rfl).1
      have hat2 := (updP_two (σ' := .mk nm (qs.foldl setPr ps) ks) (σ'' := .mk nm (qs.foldl setPr ps) ks) hat rfl).2
      by_cases hbig : 32 < (qs.foldl setPr ps).length
      · rw [if_pos hbig] at hR
        subst hR
        exact ⟨fun e => (by cases e), fun _ => .inl (by simp only [layT, bigT, decide_eq_true hbig, Bool.true_or])⟩
      · rw [if_neg hbig] at hR
        have hl := rloop_T js (n + 1) n rest f ν (updP (fun _ => .mk nm (qs.foldl setPr ps) ks) ν τ) nm (qs.foldl setPr ps) ks a hpn1 (by omega) (fun x hx => by
          rcases hoff x hx with h | h
          · exact ⟨by omega, .inl (by omega)⟩
          · exact ⟨by omega, .inr (by omega)⟩) (by omega) hat2 R hR
        simp only [htw] at hl
        refine ⟨hl.1, fun e => ?_⟩
        rcases hl.2 e with h | h
        · left; simp only [layT, bigT, h, Bool.or_true]
        · exact .inr h
theorem rloop_T {pn : List Nd} : ∀ (πs : List T) (q n : Nat) (rest : List Nd) (f : Nat) (ν : List Nm) (τ : T) (nm : Nm) (ps : List Pr) (ks : List T) (a : Nat), pn.drop q = flK πs n q ++ rest → n < q → (∀ x ∈ rest, x.parent ≠ n ∧ (x.parent < q ∨ (q + szK πs : Int) ≤ x.parent)) → szK πs ≤ f →
    atP ν τ 0 = some (.mk nm ps ks, a) → ∀ R, rloop pn a n (fun t j k => rlay pn f t j k) ((List.range pn.length).drop q) (flT τ (-1) 0) = R →
    (R.2 = true → R.1 = flT (updP (fun _ => .mk nm ps (layK πs ks)) ν τ) (-1) 0) ∧ (R.2 = false → bigK (layK πs ks) = true ∨ 512 < szT (updP (fun _ => .mk nm ps (layK πs ks)) ν τ))
  | [], q, n, rest, f, ν, τ, nm, ps, ks, a, hpn, hn, hrest, hf, hat, R, hR => by
    simp only [flK, List.nil_append] at hpn
    have hs := rloop_skip pn a n (fun t j k => rlay pn f t j k) (flT τ (-1) 0) rest.length q fun i x h1 h2 h3 => by
      have h4 := drop_get (i := i - q) hpn
      rw [Nat.add_sub_cancel' h1, h3] at h4
      exact (hrest x (List.mem_of_getElem? h4.symm)).1
    have hlen : pn.length ≤ q + rest.length := by rw [← hpn, List.length_drop]; omega
    rw [hs, List.drop_eq_nil_of_le (by simpa using hlen), rloop] at hR
    subst hR
    obtain ⟨up', h1, h2⟩ := set_T (qs := ps) hat
    rw [list_set_self h1] at h2
    exact ⟨fun _ => by rw [layK]; exact h2, fun e => by cases e⟩
  | π :: πs, q, n, rest, f, ν, τ, nm, ps, ks, a, hpn, hn, hrest, hf, hat, R, hR => by
    simp only [flK, List.append_assoc] at hpn
    simp only [szK] at hf hrest
    have hszp := szT_pos π
    obtain ⟨fr, hfr⟩ := flT_head π (n : Int) q
    have hx : pn[q]? = some ⟨n, π.name, π.props⟩ := get_flT hpn
    have hql : q < pn.length := (List.getElem?_eq_some_iff.1 hx).1
    have hdr : (List.range pn.length).drop q = q :: (List.range pn.length).drop (q + 1) := drop_cons (by rw [List.getElem?_range hql])
    rw [hdr, rloop, hx] at hR
    dsimp only at hR
    rw [if_neg (by simp), kidL_T hat] at hR
    have hoff : Off q (szT π) (flK πs n (q + szT π) ++ rest) := by
      intro x hx
      rcases List.mem_append.1 hx with hx | hx
      · rcases flK_par πs n (q + szT π) (by omega) x hx with h | h
        · left; omega
        · right; omega
      · rcases (hrest x hx).2 with h | h
        · left; exact h
        · right; omega
    have hdr2 : pn.drop (q + szT π) = flK πs n (q + szT π) ++ rest := drop_sub hpn (flT_length _ _ _)
    have hskip : ∀ t', rloop pn a n (fun t j k => rlay pn f t j k) ((List.range pn.length).drop (q + 1)) t' = rloop pn a n (fun t j k => rlay pn f t j k) ((List.range pn.length).drop (q + szT π)) t' := fun t' => by
      have hs := rloop_skip pn a n (fun t j k => rlay pn f t j k) t' (szT π - 1) (q + 1) fun i x h1 h2 h3 => by
        have h4 := drop_get (i := i - q) hpn
        rw [Nat.add_sub_cancel' (by omega), h3, List.getElem?_append_left (by rw [flT_length]; omega), hfr] at h4
        obtain ⟨m, hm⟩ : ∃ m, i - q = m + 1 := ⟨i - q - 1, by omega⟩
        rw [hm, List.getElem?_cons_succ] at h4
        have := flT_par π n q fr hfr x (List.mem_of_getElem? h4.symm)
        omega
      rw [hs]; congr 2; omega
    have hrest2 : ∀ x ∈ rest, x.parent ≠ n ∧ (x.parent < ((q + szT π : Nat) : Int) ∨ ((q + szT π : Nat) + szK πs : Int) ≤ x.parent) := fun x hx => ⟨(hrest x hx).1, by
      rcases (hrest x hx).2 with h | h
      · left; omega
      · right; omega⟩
    rw [layK]
    simp only [T.kids] at hR
    rcases insK_cases (layT π) π.name ks with ⟨k1, t, k2, rfl, hno, htn, hins⟩ | ⟨hno, hins⟩
    · have hka := kidAt_app (b := a + 1) htn (k2 := k2) hno
      rw [hka] at hR
      simp only [Option.map_some] at hR
      have hat2 : atP (ν ++ [π.name]) τ 0 = some (t, a + 1 + szK k1) := by rw [atP_snoc, hat]; exact hka
      have hsn : ∀ X, updP (fun _ => X) (ν ++ [π.name]) τ = updP (fun _ => .mk nm ps (k1 ++ X :: k2)) ν τ := fun X => by
        rw [updP_snoc hat]
        show updP (fun _ => .mk nm ps (updK π.name (fun _ => X) (k1 ++ t :: k2))) ν τ = _
        rw [updK_app hno htn]
      have hrec := rlay_T π q n _ f (ν ++ [π.name]) τ t (a + 1 + szK k1) hpn hoff (by omega) hat2 _ rfl
      rw [hins]
      rw [hsn] at hrec
      generalize rlay pn f (flT τ (-1) 0) (a + 1 + szK k1) q = RR at hR hrec
      obtain ⟨t', ok⟩ := RR
      cases ok with
      | false =>
        dsimp only at hR hrec
        subst hR
        refine ⟨fun e => (by cases e), fun _ => ?_⟩
        have hm := layK_mono πs (k1 ++ layT π t :: k2)
        have z1 := (szT_upd (σ' := .mk nm ps (layK πs (k1 ++ layT π t :: k2))) hat).1
        have z2 := (szT_upd (σ' := .mk nm ps (k1 ++ layT π t :: k2)) hat).1
        simp only [szT, bigK_append, bigK, Bool.or_eq_true] at hm z1 z2
        rcases hrec.2 rfl with h | h
        · exact .inl (hm.2 (.inr (.inl h)))
        · right; omega
      | true =>
        dsimp only at hR hrec
        have h1 := hrec.1 rfl
        subst h1
        rw [hskip] at hR
        have hat3 := (updP_two (σ' := .mk nm ps (k1 ++ layT π t :: k2)) (σ'' := .mk nm ps (k1 ++ layT π t :: k2)) hat rfl).2
        have ih := rloop_T πs (q + szT π) n rest f ν _ nm ps (k1 ++ layT π t :: k2) a hdr2 (by omega) hrest2 (by omega) hat3 R hR
        rwa [(updP_two (σ' := .mk nm ps (k1 ++ layT π t :: k2)) hat rfl).1] at ih
    · have hkn : kidAt π.name ks (a + 1) = none := by
        cases hk : kidAt π.name ks (a + 1) with
        | none => rfl
        | some p =>
          obtain ⟨k1, k2, rfl, _, h, _⟩ := kidAt_split hk
          exact absurd h (hno p.1 (by simp))
      rw [hkn] at hR
      simp only [Option.map_none] at hR
      rw [hins]
      have hm := layK_mono πs (ks ++ [layT π (.mk π.name [] [])])
      have hm2 := (layT_mono π (.mk π.name [] [])).1
      have z1 := (szT_upd (σ' := .mk nm ps (layK πs (ks ++ [layT π (.mk π.name [] [])]))) hat).1
      simp only [szT, szK, szK_append] at hm hm2 z1
      rw [flT_length] at hR
      by_cases hc : 512 ≤ szT τ
      · rw [if_pos hc] at hR
        subst hR
        exact ⟨fun e => (by cases e), fun _ => .inr (by omega)⟩
      · rw [if_neg hc] at hR
        rw [putL_T hat, belowL_T hat] at hR
        have htw := fun σ'' => (updP_two (σ' := .mk nm ps (ks ++ [.mk π.name [] []])) (σ'' := σ'') hat rfl).1
        have hat2 := (updP_two (σ' := .mk nm ps (ks ++ [.mk π.name [] []])) (σ'' := .mk nm ps ks) hat rfl).2
        generalize updP (fun _ => .mk nm ps (ks ++ [.mk π.name [] []])) ν τ = τ2 at hR htw hat2
        have hka := kidAt_app (σ := .mk π.name [] []) (b := a + 1) rfl (k2 := []) hno
        have hat3 : atP (ν ++ [π.name]) τ2 0 = some (.mk π.name [] [], a + 1 + szK ks) := by rw [atP_snoc, hat2]; exact hka
        have hsn : ∀ X, updP (fun _ => X) (ν ++ [π.name]) τ2 = updP (fun _ => .mk nm ps (ks ++ [X])) ν τ := fun X => by
          rw [updP_snoc hat2, htw]
          show updP (fun _ => .mk nm ps (updK π.name (fun _ => X) (ks ++ .mk π.name [] [] :: []))) ν τ = _
          rw [updK_app (σ := .mk π.name [] []) (k2 := []) hno rfl]
        have hrec := rlay_T π q n _ f (ν ++ [π.name]) τ2 _ (a + 1 + szK ks) hpn hoff (by omega) hat3 _ rfl
        rw [hsn] at hrec
        rw [show a + szT (.mk nm ps ks) = a + 1 + szK ks by simp only [szT]; omega] at hR
        generalize rlay pn f (flT τ2 (-1) 0) (a + 1 + szK ks) q = RR at hR hrec
        obtain ⟨t', ok⟩ := RR
        cases ok with
        | false =>
          dsimp only at hR hrec
          subst hR
          refine ⟨fun e => (by cases e), fun _ => ?_⟩
          have z2 := (szT_upd (σ' := .mk nm ps (ks ++ [layT π (.mk π.name [] [])])) hat).1
          simp only [szT, szK, szK_append, bigK_append, bigK, Bool.or_eq_true, Bool.false_eq_true, or_false] at hm z1 z2
          rcases hrec.2 rfl with h | h
          · exact .inl (hm.2 (.inr h))
          · right; omega
        | true =>
          dsimp only at hR hrec
          have h1 := hrec.1 rfl
          subst h1
          rw [hskip] at hR
          have hat4 := (updP_two (σ' := .mk nm ps (ks ++ [layT π (.mk π.name [] [])])) (σ'' := .mk nm ps ks) hat rfl).2
          have ih := rloop_T πs (q + szT π) n rest f ν _ nm ps (ks ++ [layT π (.mk π.name [] [])]) a hdr2 (by omega) hrest2 (by omega) hat4 R hR
          rwa [(updP_two (σ' := .mk nm ps (ks ++ [layT π (.mk π.name [] [])])) hat rfl).1] at ih
end
/-- The references' Lay hands back what the program's does. -/
theorem layRM_M (t : List Nd) (p : Pc) : layRM t p = layM t p := by
  cases hok : treeOk t with
  | false =>
    unfold layRM layM
    rw [hok]; rfl
  | true =>
    cases hpk : pieceOk p with
    | false =>
      unfold layRM layM
      rw [hok, hpk]; rfl
    | true =>
      obtain ⟨τ, rfl, hτ⟩ := treeOk_parse hok
      obtain ⟨π, hπ, _⟩ := treeOk_parse (pieceOk_nodes hpk)
      rw [layM_T hpk hπ hτ]
      unfold layRM
      rw [if_pos hok, if_pos hpk, findM_T]
      cases hn : pathN p.target with
      | none => rfl
      | some nms =>
        simp only [Option.bind_some]
        cases ha : atP nms τ 0 with
        | none => rfl
        | some q =>
          obtain ⟨σ, i⟩ := q
          simp only [Option.map_some]
          cases σ with
          | mk n ps ks =>
            obtain ⟨up', h1, h2⟩ := set_T (qs := dropPr p.drop ps) ha
            rw [h1]
            dsimp only
            rw [h2]
            have hat := (updP_two (σ' := .mk n (dropPr p.drop ps) ks) (σ'' := .mk n ps ks) ha rfl).2
            have hR := rlay_T (pn := p.nodes) π 0 (-1) [] p.nodes.length nms _ _ i (by rw [hπ]; simp) (fun x hx => by simp at hx) (by rw [hπ, flT_length]; exact Nat.le_refl _) hat _ rfl
            rw [(updP_two (σ' := .mk n (dropPr p.drop ps) ks) ha rfl).1] at hR
            have hlo : layO p.drop nms π τ = updP (fun _ => layT π (.mk n (dropPr p.drop ps) ks)) nms τ := updP_const ha
            have hsz := szT_upd (σ' := layT π (.mk n (dropPr p.drop ps) ks)) ha
            rw [hlo]
            generalize updP (fun _ => layT π (.mk n (dropPr p.drop ps) ks)) nms τ = τ' at hR hsz
            generalize rlay p.nodes p.nodes.length _ i 0 = R at hR ⊢
            obtain ⟨u, ok⟩ := R
            cases ok with
            | false =>
              dsimp only
              rw [if_neg]
              intro hok'
              unfold okTree at hok'
              simp only [Bool.and_eq_true, decide_eq_true_eq] at hok'
              rcases hR.2 rfl with h | h
              · have := hsz.2 h
                rw [okT_big _ _ hok'.2.2] at this
                cases this
              · omega
            | true =>
              dsimp only at hR ⊢
              rw [hR.1 rfl, treeOk_flT]
end Go.Proofs.YtjpebmgllfiloaaDoor
