/-
  Walks of slices.Clone of props, and of overlay.knots.
-/
import Derived.Test.YtjpebmgllfiloaaDoorKg
namespace Go.Proofs.YtjpebmgllfiloaaDoor
open Go Wk
open Go.RowKit (Below)
attribute [local irreducible] Go.Calls

theorem ClonePr_spec {Pb : Nat → Prop} {w : World} {v : Value} {l : List Pr} (h : RdS rPr 2 Pb w v l) (hl : l.length ≤ 2000000) :
    Calls Tryd.prog 67 #[v] w (Ret fun r w' => OwnPr (fun b => w.heap.size ≤ b) w' r l ∧ New w w') := by
  obtain ⟨a, cap, rfl, hc1, hc2⟩ := h.form
  refine calls_of_Wc Tryd.func67 rfl Tryd.ntmps67 rfl ?_
  (repeat' (first | refine Wl.moveE (by conv => { lhs; whnf }) ?_ | refine Wl.assignE (by conv => { lhs; whnf }) ?_ | refine Wl.nil ?_ | refine Qseq.normal ?_ | refine Wc.seq ?_ | refine Wc.region ?_))
  refine Wl.slNil rfl rfl ?_
  cases a with
  | none =>
    have e : l = [] := by
      rcases h with ⟨_, rfl⟩ | ⟨_, _, e, _⟩ | ⟨_, _, _, _, _, _, e, _⟩
      · rfl
      · cases e
      · cases e
    subst e
    (repeat' (first | refine Wl.assignE (by conv => { lhs; whnf }) ?_ | refine Wl.nil ?_ | refine Qseq.normal ?_ | refine Wc.seq ?_ | refine Wc.region ?_ | refine Wc.ret ?_ | refine Qseq.ret ?_ | refine Wc.condT rfl ?_))
    exact Qfn.ret1 rfl rfl ⟨_, rfl, OwnS.nil, Chg.refl _ _⟩
  | some a =>
    (repeat' (first | refine Wl.nil ?_ | refine Qseq.normal ?_ | refine Wc.seq ?_ | refine Wc.region ?_ | refine Wc.skip ?_ | refine Wc.condF rfl ?_))
    refine Wl.buildSlice0 (R := rPr) (Pe := No) fun v1 w1 o1 n1 => ?_
    (repeat' (refine Wl.moveE (by conv => { lhs; whnf }) ?_))
    refine Wl.appendAll goodPr o1 (h.keep (stable_flat pC) n1.keep) (fun y cs hy => hy) rfl rfl (by omega) (by simp only [maxLen, List.length_nil]; omega) (by simp only [List.length_nil]; omega) fun v2 w2 o2 c2 lie _ => ?_
    (repeat' (first | refine Wl.assignE (by conv => { lhs; whnf }) ?_ | refine Wl.nil ?_ | refine Qseq.normal ?_ | refine Wc.ret ?_))
    refine Qfn.ret1 rfl rfl ⟨_, rfl, ?_, Chg.trans n1 c2 fun k hk e => by have := (o1.lt e).1; omega⟩
    have hs := n1.size
    exact o2.mono (mono_flat pC) (fun b _ hb => by rcases hb with hb | hb; exact hb; omega) (fun _ _ e => e)
/-! What a tree that may be says of its nodes. -/
structure NdOk (i : Nat) (x : Nd) : Prop where
  lt : i < 512
  pr : propsOk x.props = true
  root : i = 0 → x.parent = -1 ∧ x.name = []
  kid : i ≠ 0 → 0 ≤ x.parent ∧ x.parent < i ∧ nameOk x.name = true
theorem chkGo_ok : ∀ (l : List Nd) (i : Nat) (dp pt : List Int) (sn : List Kid), (chkGo i dp pt sn l).2.isSome = true → ∀ j x, l[j]? = some x → NdOk (i + j) x
  | [], _, _, _, _, _, j, x, h => by simp at h
  | y :: r, i, dp, pt, sn, h, j, x, hx => by
    rw [chkGo] at h
    split at h
    · cases h
    · rename_i h1
      simp only [not_or, Nat.not_le, Bool.not_eq_false] at h1
      split at h
      · rename_i h0
        subst h0
        split at h
        · cases h
        · rename_i h2
          simp only [not_or, Decidable.not_not] at h2
          cases j with
          | zero =>
            simp at hx; subst hx
            exact ⟨by omega, h1.2, fun _ => h2, fun e => absurd rfl e⟩
          | succ j =>
            have := chkGo_ok r 1 _ _ _ h j x (by simpa using hx)
            rwa [show 0 + (j + 1) = 1 + j by omega]
      · rename_i h0
        split at h
        · cases h
        · rename_i h2
          simp only [not_or, Bool.not_eq_false, Int.not_lt, Int.not_le] at h2
          split at h
          · cases h
          · cases j with
            | zero =>
              simp at hx; subst hx
              exact ⟨by omega, h1.2, fun e => absurd e h0, fun _ => ⟨h2.2.1, h2.2.2, h2.1⟩⟩
            | succ j =>
              have := chkGo_ok r (i + 1) _ _ _ h j x (by simpa using hx)
              rwa [show i + (j + 1) = i + 1 + j by omega]
theorem treeOk_nd {l : List Nd} (h : treeOk l = true) {j : Nat} {x : Nd} (hx : l[j]? = some x) : NdOk j x := by
  unfold treeOk at h
  simp only [Bool.and_eq_true] at h
  have := chkGo_ok l 0 [] [] [] h.1 j x hx
  rwa [Nat.zero_add] at this
theorem treeOk_len {l : List Nd} (h : treeOk l = true) : l.length ≤ 512 := by
  rcases Nat.eq_zero_or_pos l.length with h0 | h0
  · omega
  · obtain ⟨x, hx⟩ := get_lt l (k := l.length - 1) (by omega)
    have := (treeOk_nd h hx).lt
    omega
theorem propsOk_len {l : List Pr} (h : propsOk l = true) : l.length ≤ 32 := by
  unfold propsOk at h
  simp only [Bool.and_eq_true, decide_eq_true_eq] at h
  exact h.1

/-! The knots of a tree. -/
def addKid (G : List Kn) (p j : Nat) : List Kn := match G[p]? with | some k => G.set p { k with kids := k.kids ++ [j] } | none => G
def addN (G : List Kn) (x : Nd) : List Kn := if G.length = 0 then G ++ [⟨x.name, x.props, []⟩] else addKid (G ++ [⟨x.name, x.props, []⟩]) x.parent.toNat G.length
def knotsM (t : List Nd) : List Kn := t.foldl addN []
theorem addKid_length (G : List Kn) (p j : Nat) : (addKid G p j).length = G.length := by unfold addKid; split <;> simp
theorem addN_length (G : List Kn) (x : Nd) : (addN G x).length = G.length + 1 := by unfold addN; split <;> simp [addKid_length]
theorem foldl_addN_length : ∀ (t : List Nd) (G : List Kn), (t.foldl addN G).length = G.length + t.length
  | [], G => by simp
  | x :: r, G => by rw [List.foldl_cons, foldl_addN_length r, addN_length]; simp; omega
theorem knotsM_length (t : List Nd) : (knotsM t).length = t.length := by unfold knotsM; rw [foldl_addN_length]; simp
theorem knotsM_take {t : List Nd} {i : Nat} {x : Nd} (h : t[i]? = some x) : knotsM (t.take (i + 1)) = addN (knotsM (t.take i)) x := by
  unfold knotsM; rw [take_snoc h, List.foldl_append]; rfl
abbrev optV : Option Nat → Value := fun o => .pointer (o.map fun b => ⟨b, 0, none⟩)

set_option maxHeartbeats 2000000 in
set_option maxRecDepth 4000 in
theorem knots_spec {Pb : Nat → Prop} {w : World} {v : Value} {l : List Nd} (h : RdS rNd 3 Pb w v l) (hok : treeOk l = true) :
    Calls Tryd.prog 41 #[v] w (Ret fun r w' => ∃ bs lab, KG w.heap.size lab w' bs (knotsM l) ∧ OwnS (one optV) 78 1 (fun b => w.heap.size ≤ b ∧ lab b = none) No w' r (bs.map some) ∧ New w w') := by
  obtain ⟨a, cap, rfl, hc1, hc2⟩ := h.form
  have hlen := treeOk_len hok
  refine calls_of_Wc Tryd.func41 rfl Tryd.ntmps41 rfl ?_
  (repeat' (first | refine Wl.moveE (by conv => { lhs; whnf }) ?_ | refine Wl.assignE (by conv => { lhs; whnf }) ?_ | refine Wl.nil ?_ | refine Wl.lenS rfl ?_ | refine Qseq.normal ?_ | refine Wc.seq ?_ | refine Wc.region ?_))
  refine Wl.makeN (f := optV) (y0 := none) (Pe := No) rfl rfl rfl (by omega) (by omega) (by omega) fun vl w1 o1 n1 => ?_
  rw [Int.toNat_natCast] at o1
  have hg0 : KG w.heap.size (fun _ => none) w1 [] (knotsM (l.take 0)) := ⟨rfl, fun b c e => (by cases e), fun i k hk => (by simp [knotsM] at hk), fun i k hk => (by simp [knotsM] at hk), fun i k hk => (by simp [knotsM] at hk)⟩
  obtain ⟨ap, ac, hvl, _, _⟩ := o1.form
  rw [List.length_replicate] at hvl
  have hlp := treeOk_pos hok
  obtain ⟨g, gc, hvg, hgb, hgl, hown⟩ := o1.blk (by intro e; rw [List.replicate_eq_nil_iff] at e; omega)
  rw [List.length_replicate] at hvg
  subst hvg
  clear hvl
  (repeat' (first | refine Wl.moveE (by conv => { lhs; whnf }) ?_ | refine Wl.assignE (by conv => { lhs; whnf }) ?_ | refine Wl.nil ?_ | refine Wl.lenS rfl ?_ | refine Qseq.normal ?_ | refine Wc.seq ?_ | refine Wc.region ?_ | refine Wc.block ?_))
  refine Wc.loop (σ := Nat × List Nat × Lab) (fun s => [(3, .slice (some ⟨g, 0, none⟩) l.length gc), (9, .slice a l.length cap), (10, vi l.length), (11, vi s.1)])
    (fun s w' => s.1 ≤ l.length ∧ KG w.heap.size s.2.2 w' s.2.1 (knotsM (l.take s.1)) ∧ s.2.2 g = none ∧ OwnS (one optV) 78 1 (fun b => w.heap.size ≤ b) No w' (.slice (some ⟨g, 0, none⟩) l.length gc) (s.2.1.map some ++ List.replicate (l.length - s.1) none) ∧ New w w') (fun s => l.length - s.1) (0, [], fun _ => none)
    ⟨rfl, rfl, rfl, rfl, trivial⟩ ⟨Nat.zero_le _, hg0, rfl, by simpa using o1, n1⟩ ?_
  rintro ⟨i, bs, lab⟩ G w2 ⟨hi, kg, hlg, ol, n2⟩
  dsimp only at hi kg hlg ol n2
  simp only [upds]
  (repeat' (first | refine Wl.moveE (by conv => { lhs; whnf }) ?_ | refine Wl.assignE (by conv => { lhs; whnf }) ?_ | refine Wl.nil ?_ | refine Qseq.normal ?_ | refine Wc.seq ?_ | refine Wc.region ?_ | refine Wc.block ?_ | refine Wc.skip ?_ | refine Wc.exit ?_ | refine Wc.ret ?_ | refine Qseq.exit ?_ | refine Qblk.hit ?_ | refine Qloop.exit ?_ | refine Wc.condT rfl ?_ | refine Wc.condF rfl ?_ | refine Wl.lss rfl rfl (fun _ => ?_) (fun _ => ?_)))
  · obtain ⟨x, hx⟩ := get_lt l (k := i) (by omega)
    have hnd := treeOk_nd hok hx
    refine Wl.idxAddrK h n2.keep rfl rfl (by omega) hx fun b o cs hl hR hat => ?_
    obtain ⟨pv, rfl, hpr⟩ := hR
    refine Wl.loadAt hat rfl rfl ?_
    refine Wl.alloc fun w3 b3 n3 s3 => ?_
    (repeat' (refine Wl.assignE (by conv => { lhs; whnf }) ?_))
    refine Wl.storeB (new := [vi x.parent, vs x.name, pv]) b3 rfl rfl rfl rfl (show (3 : Nat) ≤ 3 from Nat.le_refl 3) (goodNd.oc Pb w x _ ⟨pv, rfl, hpr⟩ rfl) fun w4 b4 c4 s4 => ?_
    replace b4 : Bk w4 w2.heap.size 37 [vi x.parent, vs x.name, pv] := b4
    have sz2 := n2.size
    have hgl2 : g < w2.heap.size := (ol.lt rfl).2
    have kg4 := (kg.new n3).chg c4 (fun b hb e => by rw [e]; exact kg.lab_none (.inl (Nat.le_refl _)))
    have ol4 := (ol.new (plain_one _) n3).chg (plain_one _) c4 (fun k hk e => by have := (ol.lt hk).2; omega)
    have n4 : New w w4 := Chg.trans (New.trans n2 n3) c4 fun k hk e => by omega
    have hlx : lab w2.heap.size = none := kg.lab_none (.inl (Nat.le_refl _))
    clear kg ol b3 c4 n3
    (repeat' (first | refine Wl.nil ?_ | refine Qseq.normal ?_ | refine Wc.seq ?_))
    refine Wc.regionM [0, 1, 2, 3, 4, 5] [6, 7, 8, 9, 10] rfl (by kernel_rfl) (by simp only [pick, List.getElem?_cons_succ, List.getElem?_cons_zero]; rfl) (by simp only [pick, List.getElem?_cons_succ, List.getElem?_cons_zero]; rfl) (New w4) (Chg.drew _ _) ?_
    (repeat' (first | refine Wq.moveE (by conv => { lhs; whnf }) ?_ | refine Wq.fieldAddr rfl rfl ?_))
    refine Wq.load1 rfl (fun w' hw => (b4.chg hw id).cell (o := 1) rfl) ?_
    (repeat' (refine Wq.fieldAddr rfl rfl ?_))
    refine Wq.load1 rfl (fun w' hw => (b4.chg hw id).cell (o := 2) rfl) ?_
    (repeat' (refine Wq.nil ?_))
    intro w5 n5
    have b5 := b4.chg n5 id
    have kg5 := kg4.new n5
    have ol5 := ol4.new (plain_one _) n5
    have n45 := n5
    replace n5 := New.trans n4 n5
    clear b4 kg4 ol4 n4
    refine Wch.cons ?_
    refine Wl.call (ClonePr_spec (hpr.keep (stable_flat pC) n5.keep) (by have := propsOk_len hnd.pr; omega)) rfl ?_
    rintro qv w6 ⟨oq, n6⟩
    refine Wl.nil ⟨rfl, New.trans n45 n6, ?_⟩
    refine Wch.cons ?_
    obtain ⟨qa, qc, rfl, _, _⟩ := oq.form
    refine Wl.buildF (ps := [(0, .tmp 19), (1, .tmp 22)]) (parts := [(0, vs x.name), (1, .slice qa x.props.length qc)]) rfl rfl (by simp [Value.cells]) ?_
    refine Wl.nil ⟨rfl, New.trans n45 n6, ?_⟩
    refine Wch.cons ?_
    refine Wl.box rfl fun w7 b7 n7 s7 => ?_
    refine Wl.nil ⟨rfl, New.trans (New.trans n45 n6) n7, ?_⟩
    refine Wch.cons ?_
    have hbl : bs.length = i := by rw [kg5.len, knotsM_length]; simp; omega
    refine Wl.idxP rfl rfl (by omega) (by omega) ?_
    refine Wl.nil ⟨rfl, New.trans (New.trans n45 n6) n7, ?_⟩
    refine Wch.last ?_
    have ol7 := (ol5.new (plain_one _) n6).new (plain_one _) n7
    have hlen2 : (bs.map some ++ List.replicate (l.length - i) none).length = l.length := by simp; omega
    refine Wl.storeOwn (q := some w6.heap.size) (j := i) ol7 (by rw [hlen2]) (by omega) (by show Value.pointer (some ⟨g, 0 + (i : Int).toNat * 1, none⟩) = _; simp) rfl rfl rfl fun w8 ol8 c8 => ?_
    have ex : (bs.map some ++ List.replicate (l.length - i) none).set i (some w6.heap.size) = (bs ++ [w6.heap.size]).map some ++ List.replicate (l.length - (i + 1)) none := by
      rw [show l.length - i = (l.length - (i + 1)) + 1 by omega, List.replicate_succ, List.set_append_right _ _ (by simp; omega)]
      simp [hbl]
    rw [ex] at ol8
    have sz5 := n5.size
    have sz6 := n6.size
    have hg5 : g < w5.heap.size := (ol5.lt rfl).2
    obtain ⟨lab7, kg7, hl7⟩ := kg5.push sz5 (New.trans n6 n7) sz6 b7 ((oq.mono (Pb' := fun b => w5.heap.size ≤ b ∧ b ≠ w6.heap.size) (mono_flat pC) (fun b hb h => ⟨h, by omega⟩) (fun _ _ e => e)).new plainPr n7)
    have hlg7 : lab7 g = none := (hl7 g hg5).trans hlg
    have hlx7 : lab7 w2.heap.size = none := (hl7 _ b5.lt).trans hlx
    have hob : (Value.slice (some (⟨g, 0, none⟩ : Addr)) l.length gc).ownBlock = some g := rfl
    have kg8 := kg7.chg c8 (fun b hb e => by rw [hob, Option.some.injEq] at e; rw [← e]; exact hlg7)
    have b8 := ((b5.chg n6 id).chg n7 id).chg c8 (fun e => by rw [hob, Option.some.injEq] at e; omega)
    have n8 : New w w8 := Chg.trans (New.trans (New.trans n5 n6) n7) c8 fun k hk e => by have := (ol7.lt e).1; omega
    have hG : (knotsM (l.take i) ++ [(⟨x.name, x.props, []⟩ : Kn)]).length = i + 1 := by simp [knotsM_length]; omega
    have hkt := knotsM_take hx
    unfold addN at hkt
    rw [knotsM_length, List.length_take, Nat.min_eq_left hi] at hkt
    have hkold : ∀ (p : Nat) (k : Kn), (knotsM (l.take i))[p]? = some k → ∀ j ∈ k.kids, j < i := fun p k hk j hj => by have := (kg5.kid p k hk j hj).2; rw [knotsM_length] at this; simp at this; omega
    clear ol5 ol7 kg5 kg7 b5 b7 c8 oq
    (repeat' (first | refine Wl.moveE (by conv => { lhs; whnf }) ?_ | refine Wl.nil ?_ | refine Qseq.normal ?_ | refine Wc.seq ?_ | refine Wc.region ?_ | refine Wc.skip ?_ | refine Qblk.normal ?_ | refine Wc.condT rfl ?_ | refine Wc.condF rfl ?_ | refine Wl.add rfl rfl (by omega) (by omega) ?_ | refine Wl.gtr rfl rfl (fun _ => ?_) (fun _ => ?_)))
    · rw [if_neg (by omega)] at hkt
      obtain ⟨hp0, hp1, _⟩ := hnd.kid (by omega)
      obtain ⟨k, hk⟩ := get_lt (knotsM (l.take i) ++ [⟨x.name, x.props, []⟩]) (k := x.parent.toNat) (by omega)
      obtain ⟨pv2, kv2, ka⟩ := kg8.at' _ k hk
      have hkq : ∀ j ∈ k.kids, j < i := hkold x.parent.toNat k (by rw [List.getElem?_append_left (by rw [knotsM_length]; simp; omega)] at hk; exact hk)
      generalize hG8 : knotsM (l.take i) ++ [⟨x.name, x.props, []⟩] = G8 at kg8 hk hG hkt
      unfold addKid at hkt
      rw [hk] at hkt
      simp only at hkt
      have hblen : (bs ++ [w6.heap.size]).length = i + 1 := by simp [hbl]
      generalize hbs : bs ++ [w6.heap.size] = bs8 at kg8 ka ol8 hblen
      have hlast : bs8.getD i 0 = w6.heap.size := by rw [← hbs, List.getD_eq_getElem?_getD, List.getElem?_append_right (by omega), hbl]; simp
      have hgp : ∀ q, q < i + 1 → (bs8.map some ++ List.replicate (l.length - (i + 1)) none)[q]? = some (some (bs8.getD q 0)) := fun q hq => by
        rw [List.getElem?_append_left (by simp; omega), List.getElem?_map, List.getD_eq_getElem?_getD, List.getElem?_eq_getElem (by omega)]; rfl
      have hpn : x.parent = ((x.parent.toNat : Nat) : Int) := by omega
      refine Wc.regionM [0, 1, 2, 3, 4, 5, 6, 7, 8, 9, 10, 11, 12, 13, 14, 15, 16] [17, 18, 19, 20, 21] rfl (by kernel_rfl) (by simp only [pick, List.getElem?_cons_succ, List.getElem?_cons_zero]; rfl) (by simp only [pick, List.getElem?_cons_succ, List.getElem?_cons_zero]; rfl) (Chg (fun b => lab7 b = some (x.parent.toNat, 2)) w8) (Chg.drew _ _) ?_
      have bq : ∀ w', Chg (fun b => lab7 b = some (x.parent.toNat, 2)) w8 w' → Bk w' w2.heap.size 37 [vi x.parent, vs x.name, pv] := fun w' hw => b8.chg hw (fun e => by rw [hlx7] at e; cases e)
      have oq : ∀ w', Chg (fun b => lab7 b = some (x.parent.toNat, 2)) w8 w' → OwnS (one optV) 78 1 (fun b => w.heap.size ≤ b) No w' (.slice (some ⟨g, 0, none⟩) l.length gc) (bs8.map some ++ List.replicate (l.length - (i + 1)) none) := fun w' hw => ol8.chg (plain_one _) hw (fun b hb e => by rw [hob, Option.some.injEq] at hb; rw [← hb, hlg7] at e; cases e)
      have kq : ∀ w', Chg (fun b => lab7 b = some (x.parent.toNat, 2)) w8 w' → Bk w' (bs8.getD x.parent.toNat 0) tKn [vs k.name, pv2, kv2] := fun w' hw => ka.bk.chg hw (fun e => by rw [ka.lb] at e; cases e)
      (repeat' (first | refine Wq.moveE (by conv => { lhs; whnf }) ?_ | refine Wq.fieldAddr rfl rfl ?_))
      refine Wq.load1 rfl (fun w' hw => (bq w' hw).cell (o := 0) rfl) ?_
      refine Wq.idxP rfl rfl hp0 (by omega) ?_
      refine Wq.load1 rfl (fun w' hw => by rw [Nat.zero_add, Nat.mul_one]; exact (oq w' hw).cell1 rfl (hgp _ (by omega))) ?_
      (repeat' (first | refine Wq.moveE (by conv => { lhs; whnf }) ?_ | refine Wq.fieldAddr rfl rfl ?_))
      refine Wq.load1 rfl (fun w' hw => (bq w' hw).cell (o := 0) rfl) ?_
      refine Wq.idxP rfl rfl hp0 (by omega) ?_
      refine Wq.load1 rfl (fun w' hw => by rw [Nat.zero_add, Nat.mul_one]; exact (oq w' hw).cell1 rfl (hgp _ (by omega))) ?_
      (repeat' (first | refine Wq.nilP rfl ?_ | refine Wq.fieldAddr rfl rfl ?_))
      refine Wq.load1 rfl (fun w' hw => (kq w' hw).cell (o := 2) rfl) ?_
      (repeat' (refine Wq.moveE (by conv => { lhs; whnf }) ?_))
      refine Wq.idxP rfl rfl (by omega) (by omega) ?_
      refine Wq.load1 rfl (fun w' hw => by rw [Nat.zero_add, Nat.mul_one]; exact (oq w' hw).cell1 rfl (hgp _ (by omega))) ?_
      rw [Int.toNat_natCast, hlast]
      (repeat' (refine Wq.nil ?_))
      intro w9 n9
      have ol9 := ol8.new (plain_one _) n9
      have kb9 := ka.bk.chg n9 id
      have kp9 := ka.pr.new plainPr n9
      have kk9 := ka.kd.new (plain_one _) n9
      have kg9 := kg8.new n9
      have nw9 := New.trans n8 n9
      refine Wch.cons ?_
      refine Wl.buildSlice1 (R := one ptrV) (y := w6.heap.size) (Pe := No) (good_one _ fun _ => rfl) rfl rfl rfl rfl (by omega) (by omega) fun vt w10 ot n10 s10 hobt => ?_
      refine Wl.nil ⟨rfl, (New.trans n9 n10).any, ?_⟩
      refine Wch.cons ?_
      have kb10 := kb9.chg n10 id
      have kp10 := kp9.new plainPr n10
      have kk10 := kk9.new (plain_one _) n10
      have kg10 := kg9.new n10
      have ol10 := ol9.new (plain_one _) n10
      have nw10 := New.trans nw9 n10
      have hkl : (k.kids.map fun j => bs8.getD j 0).length ≤ 513 := by rw [List.length_map]; have := kg10.kids_le hk; omega
      refine Wl.appendAll (good_one _ fun _ => rfl) kk10 (ot.rd (mono_one _)) (fun y cs hy => hy) rfl rfl (by omega) (by simp only [maxLen, List.length_singleton]; omega) (by simp only [List.length_singleton]; omega) fun kv3 w11 ok11 c11 lie _ => ?_
      have cM : Chg (fun b => lab7 b = some (x.parent.toNat, 2)) w8 w11 := Chg.trans (New.trans n9 n10).any c11 (fun b hb e => (ka.kd.lt e).1)
      refine Wl.nil ⟨rfl, cM, ?_⟩
      refine Wch.cons ?_
      refine Wl.nilP rfl ?_
      refine Wl.nil ⟨rfl, cM, ?_⟩
      refine Wch.cons ?_
      refine Wl.fieldAddr rfl rfl ?_
      refine Wl.nil ⟨rfl, cM, ?_⟩
      refine Wch.last ?_
      have kb11 := kb10.chg c11 (fun e => by have := (ka.kd.lt e).1; rw [ka.lb] at this; cases this)
      have hk3 : kv3.oneCell' = true := by obtain ⟨_, _, rfl, _⟩ := ok11.form; rfl
      refine Wl.store1 kb11 rfl (show (2 : Nat) < 3 by omega) rfl hk3 fun w12 b12 c12 => ?_
      replace b12 : Bk w12 (bs8.getD x.parent.toNat 0) tKn [vs k.name, pv2, kv3] := b12
      have c10 : Chg (fun b => ∃ q, lab7 b = some (x.parent.toNat, q)) w10 w12 := Chg.trans (c11.mono fun b hb e => ⟨2, (ka.kd.lt e).1⟩) c12 fun b hb e => ⟨0, by rw [e]; exact ka.lb⟩
      have sp : Sep pv2 kv3 := fun b e1 e2 => by
        rcases lie with lie | lie
        · rw [lie] at e2
          have h1 := (ka.pr.lt e1).1
          rw [(ka.kd.lt e2).1] at h1; cases h1
        · have := lie b e2
          have := (kp10.lt e1).2
          omega
      have kp12 := (kp10.chg plainPr c11 (fun b e1 e2 => by have h1 := (ka.pr.lt e1).1; rw [(ka.kd.lt e2).1] at h1; cases h1)).chg plainPr c12 (fun b e1 e2 => by have h1 := (ka.pr.lt e1).1; rw [e2, ka.lb] at h1; cases h1)
      have ok12 := ok11.chg (plain_one _) c12 (fun b e1 e2 => by
        rcases (ok11.lt e1).1 with h1 | h1
        · rw [e2, ka.lb] at h1; cases h1
        · have := kb10.lt; omega)
      have sz10 := nw10.size
      obtain ⟨lab12, kg12, hl12⟩ := kg10.set (k' := { k with kids := k.kids ++ [i] }) sz10 hk c10 b12 (kp12.mono (mono_flat pC) (fun _ _ e => .inl e) (fun _ _ e => e)) (by rw [List.map_append, List.map_singleton, hlast]; exact ok12) sp
        (fun j hj => by
          rcases List.mem_append.1 hj with hj | hj
          · exact kg10.kid _ k hk j hj
          · rw [List.mem_singleton.1 hj]; omega)
        (List.nodup_append.2 ⟨kg10.nd _ k hk, by simp, fun a ha b hb e => by have := hkq a ha; simp at hb; omega⟩)
      have ol12 := (ol10.chg (plain_one _) c11 (fun b e1 e2 => by rw [hob, Option.some.injEq] at e1; have := (ka.kd.lt e2).1; rw [← e1, hlg7] at this; cases this)).chg (plain_one _) c12 (fun b e1 e2 => by rw [hob, Option.some.injEq] at e1; have := ka.lb; rw [← e2, ← e1, hlg7] at this; cases this)
      (repeat' (first | refine Wl.moveE (by conv => { lhs; whnf }) ?_ | refine Wl.nil ?_ | refine Qseq.normal ?_ | refine Wc.region ?_ | refine Qblk.normal ?_ | refine Wl.add rfl rfl (by omega) (by omega) ?_))
      refine Qloop.normal (i + 1, bs8, lab12) ⟨rfl, rfl, rfl, rfl, trivial⟩ ⟨by dsimp only; omega, by dsimp only; rw [hkt]; exact kg12, (hl12 g (ol10.lt rfl).2).trans hlg7, ol12, Chg.trans nw10 c10 fun b hb ⟨q, e⟩ => by have := (kg8.low b _ e).1; omega⟩ (by dsimp only; omega)
    · rw [if_pos (by omega)] at hkt
      refine Qloop.normal (i + 1, bs ++ [w6.heap.size], lab7) ⟨rfl, rfl, rfl, rfl, trivial⟩ ⟨by dsimp only; omega, by dsimp only; rw [hkt]; exact kg8, hlg7, ol8, n8⟩ (by dsimp only; omega)
  · have e : i = l.length := by omega
    subst e
    rw [List.take_length] at kg
    rw [Nat.sub_self, List.replicate_zero, List.append_nil] at ol
    refine Qfn.ret1 rfl rfl ⟨_, rfl, bs, lab, kg, ?_, n2⟩
    exact ol.reblk fun b e h => ⟨h, by cases e; exact hlg⟩
end Go.Proofs.YtjpebmgllfiloaaDoor
