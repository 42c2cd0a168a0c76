/-
  The walk of overlay.Lay.
-/
import Derived.Test.YtjpebmgllfiloaaDoorPd
namespace Go.Proofs.YtjpebmgllfiloaaDoor
open Go Wk
open Go.RowKit (Below)
attribute [local irreducible] Go.Calls

theorem atP_lt {nms : List (List UInt8)} : ∀ {τ σ : T} {b a : Nat}, atP nms τ b = some (σ, a) → b ≤ a ∧ a + szT σ ≤ b + szT τ := by
  induction nms with
  | nil => intro τ σ b a h; simp only [atP, Option.some.injEq, Prod.mk.injEq] at h; obtain ⟨rfl, rfl⟩ := h; exact ⟨Nat.le_refl _, Nat.le_refl _⟩
  | cons nm r ih =>
    intro τ σ b a h
    cases τ with
    | mk n p ks =>
      rw [atP] at h
      simp only [T.kids] at h
      cases hk : kidAt nm ks (b + 1) with
      | none => rw [hk] at h; cases h
      | some q =>
        rw [hk] at h
        obtain ⟨k1, k2, rfl, _, _, hb, _⟩ := kidAt_split hk
        have := ih h
        simp only [szT, szK_append, szK]
        omega
theorem findM_lt {t : List Nd} {s : List UInt8} {i : Nat} (ht : treeOk t = true) (h : findM t s = some i) : i < t.length := by
  obtain ⟨τ, rfl, _⟩ := treeOk_parse ht
  rw [findM_T] at h
  cases hn : pathN s with
  | none => rw [hn] at h; cases h
  | some nms =>
    rw [hn] at h
    simp only [Option.bind_some] at h
    cases ha : atP nms τ 0 with
    | none => rw [ha] at h; cases h
    | some q =>
      rw [ha] at h
      obtain ⟨σ, a⟩ := q
      simp only [Option.map_some, Option.some.injEq] at h
      subst h
      have h1 := atP_lt ha
      have h2 := szT_pos σ
      rw [flT_length]; omega
theorem pieceOk_nodes {p : Pc} (h : pieceOk p = true) : treeOk p.nodes = true := by
  unfold pieceOk at h
  simp only [Bool.and_eq_true] at h
  exact h.1
mutual
theorem ndsT_props {H : List Kn} : ∀ (τ : T) (i : Nat) (ids : List Nat), Is H τ i ids → bigT τ = false → ∀ j ∈ ids, ∀ y, H[j]? = some y → y.props.length ≤ 32
  | .mk n p ks, i, ids, h, hb, j, hj, y, hy => by
    simp only [Is] at h
    simp only [bigT, Bool.or_eq_false_iff, decide_eq_false_iff_not] at hb
    obtain ⟨kk, r, h1, rfl, h2⟩ := h
    rcases List.mem_cons.1 hj with rfl | hj
    · rw [h1] at hy; cases hy; dsimp only; omega
    · exact ndsK_props ks kk r h2 hb.2 j hj y hy
theorem ndsK_props {H : List Kn} : ∀ (ks : List T) (l ids : List Nat), IsL H ks l ids → bigK ks = false → ∀ j ∈ ids, ∀ y, H[j]? = some y → y.props.length ≤ 32
  | [], l, ids, h, _, j, hj, y, hy => by simp only [IsL] at h; rw [h.2] at hj; simp at hj
  | t :: ts, l, ids, h, hb, j, hj, y, hy => by
    simp only [IsL] at h
    simp only [bigK, Bool.or_eq_false_iff] at hb
    obtain ⟨j', r, a, b, rfl, rfl, h1, h2⟩ := h
    rcases List.mem_append.1 hj with hj | hj
    · exact ndsT_props t j' a h1 hb.1 j hj y hy
    · exact ndsK_props ts r b h2 hb.2 j hj y hy
end
theorem knots_props (τ : T) (h : okTree τ = true) (j : Nat) (y : Kn) (hy : (knotsM (flT τ (-1) 0))[j]? = some y) : y.props.length ≤ 32 := by
  unfold okTree at h
  simp only [Bool.and_eq_true] at h
  have hl := (List.getElem?_eq_some_iff.1 hy).1
  rw [knotsM_length, flT_length] at hl
  exact ndsT_props τ 0 _ (knotsM_is τ) (okT_big τ 1 h.2.2) j (List.mem_range.2 hl) y hy
/-- What a laid graph comes to. -/
theorem lay_flat {t : List Nd} {p : Pc} {i : Nat} (ht : treeOk t = true) (hp : pieceOk p = true) (hi : findM t p.target = some i) {r : LayR} (hr : layG p.nodes p.nodes.length i 0 (dropG p.drop (knotsM t) i) (t.length : Int) = r) (hr1 : r.1 = true) :
    (flatG r.2.1 r.2.1.length 0 (-1) []).length = r.2.1.length := by
  obtain ⟨τ, rfl, _⟩ := treeOk_parse ht
  obtain ⟨π, hπ, _⟩ := treeOk_parse (pieceOk_nodes hp)
  rw [hπ] at hr
  rw [findM_T] at hi
  cases hn : pathN p.target with
  | none => rw [hn] at hi; cases hi
  | some nms =>
    rw [hn] at hi
    simp only [Option.bind_some] at hi
    cases ha : atP nms τ 0 with
    | none => rw [ha] at hi; cases hi
    | some q =>
      rw [ha] at hi
      obtain ⟨σ, a⟩ := q
      cases hi
      obtain ⟨h1, h2, _⟩ := (lay_run ha r hr).1 hr1
      rw [h1, flT_length, h2]

set_option maxHeartbeats 2000000 in
set_option maxRecDepth 4000 in
theorem Lay_spec {Pb : Nat → Prop} {w : World} {tv nv dv : Value} {t : List Nd} {p : Pc} (ht : RdS rNd 3 Pb w tv t) (hn : RdS rNd 3 Pb w nv p.nodes) (hd : RdS (one vs) 1 Pb w dv p.drop) (hs : p.target.length ≤ 2000000) :
    Calls Tryd.prog 12 #[tv, .agg #[vs p.target, nv, dv]] w (Ret fun r w' => ∃ v, r = .tuple #[v, vi (layM t p).2] ∧ New w w' ∧ ∃ lab pvs, TrOwn w.heap.size lab w' v (layM t p).1 pvs) := by
  refine calls_of_Wc Tryd.func12 rfl Tryd.ntmps12 rfl ?_
  (repeat' (first | refine Wc.seq ?_ | refine Wc.region ?_))
  refine Wl.box rfl fun w1 b1 n1 s1 => ?_
  replace b1 : Bk w1 w.heap.size 25 [vs p.target, nv, dv] := b1
  (repeat' (first | refine Wl.moveE (by conv => { lhs; whnf }) ?_ | refine Wl.assignE (by conv => { lhs; whnf }) ?_ | refine Wl.nil ?_ | refine Qseq.normal ?_ | refine Wc.seq ?_ | refine Wc.region ?_))
  refine Wl.call (may_spec (ht.keep stableNd n1.keep)) rfl ?_
  rintro _ w2 ⟨rfl, n2⟩
  replace b1 := b1.chg n2 id
  replace n2 := New.trans n1 n2
  unfold layM
  cases hok : treeOk t with
  | false =>
    rw [if_neg (by simp)]
    (repeat' (first | refine Wl.assignE (by conv => { lhs; whnf }) ?_ | refine Wl.nil ?_ | refine Wl.notB rfl ?_ | refine Qseq.normal ?_ | refine Wc.seq ?_ | refine Wc.region ?_ | refine Wc.ret ?_ | refine Qseq.ret ?_ | refine Wc.condT rfl ?_))
    exact Qfn.ret2 rfl rfl rfl ⟨_, rfl, _, rfl, n2, _, [], TrOwn.nil⟩
  | true =>
    rw [if_pos rfl]
    (repeat' (first | refine Wl.nil ?_ | refine Wl.notB rfl ?_ | refine Qseq.normal ?_ | refine Wc.seq ?_ | refine Wc.region ?_ | refine Wc.skip ?_ | refine Wc.condF rfl ?_))
    refine Wl.loadB b1 rfl rfl ?_
    refine Wl.call (CheckP_spec (p := p) (hn.keep stableNd n2.keep) (hd.keep (stable_one _) n2.keep)) rfl ?_
    rintro _ w3 ⟨rfl, n3⟩
    replace b1 := b1.chg n3 id
    replace n3 := New.trans n2 n3
    unfold pieceE
    cases hpk : pieceOk p with
    | false =>
      rw [if_neg (by simp), if_neg (by simp)]
      (repeat' (first | refine Wl.moveE (by conv => { lhs; whnf }) ?_ | refine Wl.assignE (by conv => { lhs; whnf }) ?_ | refine Wl.nil ?_ | refine Qseq.normal ?_ | refine Wc.seq ?_ | refine Wc.region ?_ | refine Wc.ret ?_ | refine Qseq.ret ?_ | refine Wc.condT rfl ?_ | (refine Wl.neq rfl rfl (fun _ => ?_) (fun _ => ?_) <;> (first | (exfalso; omega) | skip))))
      exact Qfn.ret2 rfl rfl rfl ⟨_, rfl, _, rfl, n3, _, [], TrOwn.nil⟩
    | true =>
      rw [if_pos rfl, if_pos rfl]
      (repeat' (first | refine Wl.moveE (by conv => { lhs; whnf }) ?_ | refine Wl.assignE (by conv => { lhs; whnf }) ?_ | refine Wl.nil ?_ | refine Qseq.normal ?_ | refine Wc.seq ?_ | refine Wc.region ?_ | refine Wc.skip ?_ | refine Wc.condF rfl ?_ | refine Wl.fieldAddr rfl rfl ?_ | (refine Wl.neq rfl rfl (fun _ => ?_) (fun _ => ?_) <;> (first | (exfalso; omega) | skip))))
      refine Wl.load1 rfl (b1.cell (o := 0) rfl) ?_
      refine Wl.call (Find_spec (ht.keep stableNd n3.keep) hs) rfl ?_
      rintro _ w4 ⟨rfl, n4⟩
      replace b1 := b1.chg n4 id
      replace n4 := New.trans n3 n4
      unfold findR
      rw [if_pos hok]
      cases hfi : findM t p.target with
      | none =>
        dsimp only
        (repeat' (first | refine Wl.moveE (by conv => { lhs; whnf }) ?_ | refine Wl.assignE (by conv => { lhs; whnf }) ?_ | refine Wl.nil ?_ | refine Wl.extract rfl rfl ?_ | refine Qseq.normal ?_ | refine Wc.seq ?_ | refine Wc.region ?_ | refine Wc.ret ?_ | refine Qseq.ret ?_ | refine Wc.condT rfl ?_ | (refine Wl.neq rfl rfl (fun _ => ?_) (fun _ => ?_) <;> (first | (exfalso; omega) | skip))))
        exact Qfn.ret2 rfl rfl rfl ⟨_, rfl, _, rfl, n4, _, [], TrOwn.nil⟩
      | some i =>
        dsimp only
        have hil := findM_lt hok hfi
        have htl := treeOk_len hok
        have hpl := treeOk_pos (pieceOk_nodes hpk)
        have hpl2 := treeOk_len (pieceOk_nodes hpk)
        (repeat' (first | refine Wl.moveE (by conv => { lhs; whnf }) ?_ | refine Wl.assignE (by conv => { lhs; whnf }) ?_ | refine Wl.nil ?_ | refine Wl.extract rfl rfl ?_ | refine Qseq.normal ?_ | refine Wc.seq ?_ | refine Wc.region ?_ | refine Wc.skip ?_ | refine Wc.condF rfl ?_ | (refine Wl.neq rfl rfl (fun _ => ?_) (fun _ => ?_) <;> (first | (exfalso; omega) | skip))))
        refine Wl.call (knots_spec (ht.keep stableNd n4.keep) hok) rfl ?_
        rintro lv w5 ⟨bs, lab, kg5, ol5, n5⟩
        have b5 := b1.chg n5 id
        have n05 := New.trans n4 n5
        obtain ⟨la, lc, rfl, hlc1, hlc2⟩ := ol5.form
        have hgl := knotsM_length t
        have hbl : bs.length = t.length := by rw [kg5.len, hgl]
        simp only [List.length_map, maxLen] at hlc1 hlc2
        obtain ⟨k, hk⟩ := get_lt (knotsM t) (k := i) (by omega)
        obtain ⟨pv, kv, ka5⟩ := kg5.at' i k hk
        have kb5 : Bk w5 (bs.getD i 0) tKn [vs k.name, pv, kv] := ka5.bk
        have kp5 : OwnPr (fun x => lab x = some (i, 1)) w5 pv k.props := ka5.pr
        have hbget : ∀ j, j < t.length → (bs.map some)[j]? = some (some (bs.getD j 0)) := fun j hj => by
          rw [List.getElem?_map, List.getD_eq_getElem?_getD, List.getElem?_eq_getElem (by omega)]; rfl
        have hpb : lab w.heap.size = none := kg5.lab_none (.inr (by have := b1.lt; omega))
        (repeat' (first | refine Wl.assignE (by conv => { lhs; whnf }) ?_ | refine Wl.nil ?_ | refine Qseq.normal ?_ | refine Wc.seq ?_))
        refine Wc.regionT rfl (by kernel_rfl) (fun w' => Chg (fun b => lab b = some (i, 1)) w5 w') (Chg.drew _ _) ?_
        intro w6 n6
        (repeat' (refine Wt.quiet rfl (Wq.moveE (by conv => { lhs; whnf }) (Wq.nil ?_))))
        have hls : ∀ w', Chg (fun b => lab b = some (i, 1)) w5 w' → Keep (fun b => (w4.heap.size ≤ b ∧ lab b = none) ∨ No b) w5 w' := fun w' hw => hw.keep fun b _ hb e => by
          rcases hb with hb | hb
          · rw [hb.2] at e; cases e
          · exact hb
        refine Wt.quiet rfl (Wq.idxAddrV (ol5.rd (mono_one _)) hls rfl rfl (by omega) (hbget i (by omega)) (fun b o hc => Wq.nil ?_))
        refine Wt.quiet rfl (Wq.load1 rfl hc (Wq.nil ?_))
        (repeat' (refine Wt.quiet rfl (Wq.moveE (by conv => { lhs; whnf }) (Wq.nil ?_))))
        refine Wt.quiet rfl (Wq.idxAddrV (ol5.rd (mono_one _)) hls rfl rfl (by omega) (hbget i (by omega)) (fun b o hc => Wq.nil ?_))
        refine Wt.quiet rfl (Wq.load1 rfl hc (Wq.nil ?_))
        have hkb : ∀ w', Chg (fun b => lab b = some (i, 1)) w5 w' → Bk w' (bs.getD i 0) tKn [vs k.name, pv, kv] := fun w' hw => kb5.chg hw (fun e => by rw [ka5.lb] at e; cases e)
        (repeat' (first | refine Wt.quiet rfl (Wq.nilP rfl (Wq.nil ?_)) | refine Wt.quiet rfl (Wq.fieldAddr rfl rfl (Wq.nil ?_))))
        refine Wt.quiet rfl (Wq.load1 rfl (fun w' hw => (hkb w' hw).cell (o := 1) rfl) (Wq.nil ?_))
        refine Wt.chain rfl (Wl.makeFunc (first := []) (cap := [.tmp 3]) rfl rfl ?_)
        refine Wl.nil ⟨rfl, n6.any, ?_⟩
        have b6 := b5.chg n6 id
        have hd6 := hd.keep (stable_one _) (New.trans n05 n6).keep
        have kp6 := kp5.new plainPr n6
        refine Wt.chain rfl (Wl.call (DeleteFunc_spec (p := fun y => p.drop.contains y.1) (fg := 43) (fc := #[ptrV w.heap.size]) kp6 (fun y w' hy hw => Lay1_spec (b6.chg hw (fun e => by have := (kp6.lt e).1; rw [hpb] at this; cases this))
          (hd.keep (stable_one _) (Chg.keep (Chg.trans (New.trans n05 n6).any hw (M := fun b => w.heap.size ≤ b) (fun b hb e => by have := (kg5.low b _ (kp6.lt e).1).1; have := n4.size; omega)) (fun b hb _ e => by omega))))) rfl ?_)
        rintro pv7 w7 ⟨kp7, hob7, c7⟩
        have c57 : Chg (fun b => lab b = some (i, 1)) w5 w7 := Chg.trans n6.any c7 (fun b _ e => (kp6.lt e).1)
        refine Wl.nil ⟨rfl, c57, ?_⟩
        (repeat' (first | refine Wt.quiet rfl (Wq.nilP rfl (Wq.nil ?_)) | refine Wt.quiet rfl (Wq.fieldAddr rfl rfl (Wq.nil ?_))))
        have h7 : pv7.oneCell' = true := by obtain ⟨_, _, rfl, _⟩ := kp7.form; rfl
        refine Wt.last rfl (Wl.store1 (hkb w7 c57) rfl (show (1 : Nat) < 3 by omega) rfl h7 fun w8 b8 c8 => ?_)
        replace b8 : Bk w8 (bs.getD i 0) tKn [vs k.name, pv7, kv] := b8
        have kg6 := kg5.new n6
        have lo6 : w4.heap.size ≤ w6.heap.size := by have := n5.size; have := n6.size; omega
        have cT : Chg (fun b => ∃ q, lab b = some (i, q)) w6 w8 := Chg.trans (c7.mono fun b _ e => ⟨1, (kp6.lt e).1⟩) c8 fun b _ e => ⟨0, by rw [e]; exact ka5.lb⟩
        have kk6 : OwnKids (fun x => lab x = some (i, 2)) w6 kv (k.kids.map fun j => bs.getD j 0) := (ka5.chg n6 (fun _ e => e.elim)).kd
        have kk8 := (kk6.chg (plain_one _) c7 (fun b e1 e2 => by have h1 := (kk6.lt e1).1; rw [(kp6.lt e2).1] at h1; cases h1)).chg (plain_one _) c8 (fun b e1 e2 => by have h1 := (kk6.lt e1).1; rw [e2, ka5.lb] at h1; cases h1)
        have kp8 := kp7.chg plainPr c8 (fun b e1 e2 => by have h1 := (kp7.lt e1).1; rw [e2, ka5.lb] at h1; cases h1)
        have sp : Sep pv7 kv := fun b e1 e2 => by have h1 := (kk6.lt e2).1; rw [(kp6.lt (hob7 b e1)).1] at h1; cases h1
        obtain ⟨lab8, kg8, hl8⟩ := kg6.set (i := i) (k' := { k with props := dropPr p.drop k.props }) (pv' := pv7) (kv' := kv) lo6 hk cT b8 (kp8.mono (mono_flat pC) (fun b _ e => .inl e) (fun _ _ e => e)) (kk8.mono (mono_one _) (fun b _ e => .inl e) (fun _ _ e => e)) sp (fun j hj => kg6.kid i k hk j hj) (kg6.nd i k hk)
        have hdG : dropG p.drop (knotsM t) i = (knotsM t).set i { k with props := dropPr p.drop k.props } := by unfold dropG; rw [hk]
        rw [← hdG] at kg8
        have hdl : (dropG p.drop (knotsM t) i).length = t.length := by rw [hdG, List.length_set, hgl]
        have b68 : Bk w8 w.heap.size 25 [vs p.target, nv, dv] := b6.chg cT (fun ⟨q, e⟩ => by rw [hpb] at e; cases e)
        have n08 : New w w8 := Chg.trans (New.trans n05 n6) cT fun b hb ⟨q, e⟩ => by have := (kg5.low b _ e).1; have := n4.size; omega
        obtain ⟨ta, tc, rfl, _, _⟩ := ht.form
        (repeat' (first | refine Wl.nil ?_ | refine Qseq.normal ?_ | refine Wc.seq ?_ | refine Wc.region ?_ | refine Wl.fieldAddr rfl rfl ?_))
        refine Wl.load1 rfl (b68.cell (o := 1) rfl) ?_
        (repeat' (first | refine Wl.moveE (by conv => { lhs; whnf }) ?_ | refine Wl.lenS rfl ?_))
        refine Wl.buildF (ps := [(0, .tmp 47), (1, .tmp 49)]) (parts := [(0, nv), (1, vi t.length)]) rfl rfl (by
          obtain ⟨_, _, rfl, _⟩ := hn.form
          simp [Value.cells]) ?_
        refine Wl.alloc fun w9 b9 n9 s9 => ?_
        obtain ⟨na, nc, rfl, _, _⟩ := hn.form
        refine Wl.storeB (new := [.slice na p.nodes.length nc, vi t.length]) b9 rfl rfl rfl rfl (show (2 : Nat) ≤ 2 from Nat.le_refl 2) (by
          intro c hc
          simp at hc
          rcases hc with rfl | rfl <;> rfl) fun w10 b10 c10 s10 => ?_
        replace b10 : Bk w10 w8.heap.size 82 [.slice na p.nodes.length nc, vi t.length] := b10
        have n810 : New w8 w10 := Chg.trans n9 c10 fun b hb e => by omega
        have n010 := New.trans n08 n810
        have kg10 := kg8.new n810
        have lb10 : lab8 w8.heap.size = none := kg8.lab_none (.inl (Nat.le_refl _))
        have ol8 : OwnS (one optV) 78 1 (fun b => w4.heap.size ≤ b ∧ lab b = none) No w8 (.slice la (bs.map some).length lc) (bs.map some) := (ol5.new (plain_one _) n6).chg (plain_one _) cT (fun b e1 ⟨q, e⟩ => by rw [(ol5.lt e1).1.2] at e; cases e)
        have ol10 := ol8.new (plain_one _) n810
        have s8 : w4.heap.size ≤ w8.heap.size := by have := cT.size; omega
        have hL : LayW w4.heap.size w8.heap.size lab8 w10 bs (dropG p.drop (knotsM t) i) (.slice na p.nodes.length nc) p.nodes (t.length : Int) :=
          ⟨kg10, b10, ⟨s8, lb10⟩, (hn.mono (Pb' := fun b => b < w4.heap.size) monoNd (fun b hb _ => by have := n4.size; omega)).keep stableNd n010.keep, by rw [hdl], fun j y hy => by
            rw [hdG, List.getElem?_set] at hy
            have hkn : ∀ (j : Nat) (y : Kn), (knotsM t)[j]? = some y → y.props.length ≤ 32 := fun j y hy => by
              have htt := treeOk_parse hok
              obtain ⟨τ, rfl, hτ⟩ := htt
              exact knots_props τ hτ j y hy
            split at hy
            · split at hy
              · simp only [Option.some.injEq] at hy
                subst hy
                exact Nat.le_trans (List.length_filter_le _ _) (hkn i k hk)
              · cases hy
            · exact hkn j y hy, by have := n810.size; omega⟩
        (repeat' (first | refine Wl.moveE (by conv => { lhs; whnf }) ?_ | refine Wl.nil ?_ | refine Qseq.normal ?_ | refine Wc.seq ?_ | refine Wc.region ?_))
        refine Wl.idxAddrV (ol10.rd (mono_one _)) rfl rfl (by omega) (hbget i (by omega)) fun b o hc => ?_
        refine Wl.load1 rfl hc ?_
        have hlay := lay_flat hok hpk hfi rfl
        have hcall := lay_spec (pieceOk_nodes hpk) p.nodes.length i 0 _ _ w10 bs lab8 (by rw [hdl]; exact hil) hpl (by omega) (by omega) hL
        rw [show ((0 : Nat) : Int) = 0 from rfl] at hcall
        refine Wl.call hcall rfl ?_
        rintro _ w11 ⟨rfl, c11, hres⟩
        generalize layG p.nodes p.nodes.length i 0 (dropG p.drop (knotsM t) i) (t.length : Int) = R at hlay hres ⊢
        obtain ⟨ok, G2, c2⟩ := R
        have n011 : New w w11 := Chg.trans n010 c11 fun b hb e => by
          rcases e with e | e
          · have := n08.size; omega
          · exact e (kg8.lab_none (.inr (by have := n4.size; omega)))
        cases ok with
        | false =>
          dsimp only
          (repeat' (first | refine Wl.assignE (by conv => { lhs; whnf }) ?_ | refine Wl.nil ?_ | refine Wl.notB rfl ?_ | refine Qseq.normal ?_ | refine Wc.seq ?_ | refine Wc.region ?_ | refine Wc.ret ?_ | refine Qseq.ret ?_ | refine Wc.condT rfl ?_))
          exact Qfn.ret2 rfl rfl rfl ⟨_, rfl, _, rfl, n011, _, [], TrOwn.nil⟩
        | true =>
          dsimp only at hlay hres ⊢
          replace hlay := hlay rfl
          obtain ⟨lab11, bs', hw11, hc11, hl11⟩ := hres rfl
          have hgl11 := hw11.gl
          have ol11 := ol10.chg (plain_one _) c11 (fun b e1 e2 => by
            have h1 := ol8.lt e1
            rcases e2 with e2 | e2
            · omega
            · rw [hl8 b (by have := (ol5.lt e1).2; have := n6.size; omega), h1.1.2] at e2
              exact e2 rfl)
          (repeat' (first | refine Wl.moveE (by conv => { lhs; whnf }) ?_ | refine Wl.nil ?_ | refine Wl.notB rfl ?_ | refine Qseq.normal ?_ | refine Wc.seq ?_ | refine Wc.region ?_ | refine Wc.skip ?_ | refine Wc.condF rfl ?_))
          refine Wl.idxAddrV (ol11.rd (mono_one _)) rfl rfl (by omega) (hbget 0 (by omega)) fun b o hc => ?_
          refine Wl.load1 rfl hc ?_
          have hg0 : (bs ++ bs').getD 0 0 = bs.getD 0 0 := by
            rw [List.getD_eq_getElem?_getD, List.getElem?_append_left (by omega), ← List.getD_eq_getElem?_getD]
          have hflat := flat_spec hw11.kg (i := 0) (by have := hw11.kg.len; rw [List.length_append] at this; omega) (fun j y hy => by have := hw11.pl j y hy; omega) (by omega) (by rw [hlay]; omega)
          rw [hg0] at hflat
          refine Wl.call hflat rfl ?_
          rintro ov w12 ⟨lab12, pvs12, to12, n12⟩
          (repeat' (first | refine Wl.moveE (by conv => { lhs; whnf }) ?_ | refine Wl.assignE (by conv => { lhs; whnf }) ?_ | refine Wl.nil ?_ | refine Qseq.normal ?_ | refine Wc.seq ?_ | refine Wc.region ?_))
          refine Wl.call (may_spec to12.rd) rfl ?_
          rintro _ w13 ⟨rfl, n13⟩
          have n013 := New.trans (New.trans n011 n12) n13
          cases hout : treeOk (flatG G2 G2.length 0 (-1) []) with
          | false =>
            rw [if_neg (by simp)]
            (repeat' (first | refine Wl.assignE (by conv => { lhs; whnf }) ?_ | refine Wl.nil ?_ | refine Wl.notB rfl ?_ | refine Qseq.normal ?_ | refine Wc.seq ?_ | refine Wc.region ?_ | refine Wc.ret ?_ | refine Qseq.ret ?_ | refine Wc.condT rfl ?_))
            exact Qfn.ret2 rfl rfl rfl ⟨_, rfl, _, rfl, n013, _, [], TrOwn.nil⟩
          | true =>
            rw [if_pos rfl]
            (repeat' (first | refine Wl.moveE (by conv => { lhs; whnf }) ?_ | refine Wl.assignE (by conv => { lhs; whnf }) ?_ | refine Wl.nil ?_ | refine Wl.notB rfl ?_ | refine Qseq.normal ?_ | refine Wc.seq ?_ | refine Wc.region ?_ | refine Wc.skip ?_ | refine Wc.ret ?_ | refine Wc.condF rfl ?_))
            have to13 := to12.new n13
            exact Qfn.ret2 rfl rfl rfl ⟨_, rfl, _, rfl, n013, lab12, pvs12, to13.len, fun b c e => ⟨by have := (to13.low b c e).1; have := n011.size; omega, (to13.low b c e).2⟩, to13.arr, to13.pr⟩
end Go.Proofs.YtjpebmgllfiloaaDoor
