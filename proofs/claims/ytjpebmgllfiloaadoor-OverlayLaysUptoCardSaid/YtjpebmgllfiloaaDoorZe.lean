/-
  Texts of this claim, one behind the other: Qg, Lz, Pw, Sf, Qh, Qi, Qo, Bulk, Opn, Bd.
-/
import Derived.Test.YtjpebmgllfiloaaDoorZd
import Derived.Test.YtjpebmgllfiloaaDoorRows
import Derived.ChangeSame
namespace Go.Proofs.YtjpebmgllfiloaaDoor
open Go Wk
open Go.RowKit (Below)
attribute [local irreducible] Go.Calls

def rloop (pn : List Nd) (a n : Nat) (rec : List Nd → Nat → Nat → List Nd × Bool) : List Nat → List Nd → List Nd × Bool
  | [], t => (t, true)
  | k :: r, t => match pn[k]? with
    | none => (t, true)
    | some x =>
      if x.parent ≠ (n : Int) then rloop pn a n rec r t
      else match kidL t (a : Int) x.name with
        | some j => (match rec t j k with | (t', true) => rloop pn a n rec r t' | (t', false) => (t', false))
        | none => if 512 ≤ t.length then (t, false)
          else (match rec (putL t a x.name) (a + belowL t a) k with | (t', true) => rloop pn a n rec r t' | (t', false) => (t', false))
def rlay (pn : List Nd) : Nat → List Nd → Nat → Nat → List Nd × Bool
  | 0, t, _, _ => (t, false)
  | f + 1, t, a, n => match t[a]?, pn[n]? with
    | some y, some x =>
      if 32 < (x.props.foldl setPr y.props).length then (t.set a { y with props := x.props.foldl setPr y.props }, false)
      else rloop pn a n (fun t j k => rlay pn f t j k) ((List.range pn.length).drop (n + 1)) (t.set a { y with props := x.props.foldl setPr y.props })
    | _, _ => (t, false)
/-- What the trees between keep. -/
structure Small (t : List Nd) : Prop where
  len : t.length ≤ 512
  par : ∀ x ∈ t, x.parent < t.length
  pr : ∀ x ∈ t, x.props.length ≤ 32
theorem Small.put {t : List Nd} {a : Nat} {nm : List UInt8} (h : Small t) (ha : a < t.length) (hl : ¬ 512 ≤ t.length) : Small (putL t a nm) := by
  have hb := belowL_le ha
  refine ⟨by rw [putL_length]; omega, fun x hx => ?_, fun x hx => ?_⟩
  · rw [putL_length]
    unfold putL at hx
    simp only [List.mem_append, List.mem_cons, List.mem_map] at hx
    rcases hx with hx | rfl | ⟨y, hy, rfl⟩
    · have := h.par x (List.mem_of_mem_take hx); omega
    · simp only; omega
    · have := h.par y (List.mem_of_mem_drop hy)
      unfold shP
      split <;> (try dsimp only) <;> omega
  · unfold putL at hx
    simp only [List.mem_append, List.mem_cons, List.mem_map] at hx
    rcases hx with hx | rfl | ⟨y, hy, rfl⟩
    · exact h.pr x (List.mem_of_mem_take hx)
    · simp
    · rw [shP_props]; exact h.pr y (List.mem_of_mem_drop hy)
theorem Small.set {t : List Nd} {a : Nat} {y : Nd} {ps : List Pr} (h : Small t) (hy : t[a]? = some y) (hp : ps.length ≤ 32) : Small (t.set a { y with props := ps }) := by
  have hym := List.mem_of_getElem? hy
  refine ⟨by simpa using h.len, fun x hx => ?_, fun x hx => ?_⟩
  · rw [List.length_set]
    rcases List.mem_or_eq_of_mem_set hx with hx | rfl
    · exact h.par x hx
    · exact h.par y hym
  · rcases List.mem_or_eq_of_mem_set hx with hx | rfl
    · exact h.pr x hx
    · exact hp
theorem rloop_small {pn : List Nd} {a n : Nat} {rec : List Nd → Nat → Nat → List Nd × Bool} (hrec : ∀ t j k, Small t → j < t.length → (rec t j k).2 = true → Small (rec t j k).1 ∧ t.length ≤ (rec t j k).1.length) :
    ∀ (l : List Nat) (t : List Nd), Small t → a < t.length → (rloop pn a n rec l t).2 = true → Small (rloop pn a n rec l t).1 ∧ t.length ≤ (rloop pn a n rec l t).1.length
  | [], t, h, _, _ => ⟨h, Nat.le_refl _⟩
  | k :: r, t, h, ha, h2 => by
    rw [rloop] at h2 ⊢
    cases hx : pn[k]? with
    | none => exact ⟨h, Nat.le_refl _⟩
    | some x =>
      rw [hx] at h2
      dsimp only at h2 ⊢
      by_cases hp : x.parent ≠ (n : Int)
      · rw [if_pos hp] at h2 ⊢
        exact rloop_small hrec r t h ha h2
      · rw [if_neg hp] at h2 ⊢
        cases hk : kidL t (a : Int) x.name with
        | some j =>
          rw [hk] at h2
          dsimp only at h2 ⊢
          have hj : j < t.length := by unfold kidL at hk; exact (List.findIdx?_eq_some_iff_getElem.1 hk).1
          have h3 := hrec t j k h hj
          generalize rec t j k = R at h2 h3 ⊢
          obtain ⟨t', b⟩ := R
          cases b with
          | false => cases h2
          | true =>
            dsimp only at h2 h3 ⊢
            have h4 := h3 rfl
            have h5 := rloop_small hrec r t' h4.1 (by omega) h2
            exact ⟨h5.1, by omega⟩
        | none =>
          rw [hk] at h2
          dsimp only at h2 ⊢
          by_cases h5 : 512 ≤ t.length
          · rw [if_pos h5] at h2; cases h2
          · rw [if_neg h5] at h2 ⊢
            have hb := belowL_le ha
            have h3 := hrec (putL t a x.name) (a + belowL t a) k (h.put ha h5) (by rw [putL_length]; omega)
            rw [putL_length] at h3
            generalize rec (putL t a x.name) (a + belowL t a) k = R at h2 h3 ⊢
            obtain ⟨t', b⟩ := R
            cases b with
            | false => cases h2
            | true =>
              dsimp only at h2 h3 ⊢
              have h4 := h3 rfl
              have h5 := rloop_small hrec r t' h4.1 (by omega) h2
              exact ⟨h5.1, by omega⟩
theorem rlay_small {pn : List Nd} : ∀ (f : Nat) (t : List Nd) (a n : Nat), Small t → a < t.length → (rlay pn f t a n).2 = true → Small (rlay pn f t a n).1 ∧ t.length ≤ (rlay pn f t a n).1.length
  | 0, t, a, n, h, _, h2 => by cases h2
  | f + 1, t, a, n, h, ha, h2 => by
    rw [rlay] at h2 ⊢
    obtain ⟨y, hy⟩ := get_lt t ha
    rw [hy] at h2 ⊢
    cases hx : pn[n]? with
    | none => rw [hx] at h2; cases h2
    | some x =>
      rw [hx] at h2
      dsimp only at h2 ⊢
      split at h2
      · cases h2
      · rename_i h3
        rw [if_neg h3]
        have := rloop_small (pn := pn) (a := a) (n := n) (rec := fun t j k => rlay pn f t j k) (fun t j k => rlay_small f t j k) ((List.range pn.length).drop (n + 1)) _ (h.set hy (by omega)) (by simpa using ha) h2
        rwa [List.length_set] at this
set_option maxHeartbeats 2000000 in
set_option maxRecDepth 4000 in
theorem layR_spec {Pp : Nat → Prop} {pv : Value} {pn : List Nd} (hpn : treeOk pn = true) : ∀ (f a n : Nat) (t : List Nd) (w : World) (Pt : Nat → Prop) (tv : Value),
    RdS rNd 3 Pt w tv t → RdS rNd 3 Pp w pv pn → Small t → a < t.length → n < pn.length → pn.length - n ≤ f →
    Calls Tryd.prog 38 #[tv, vi a, pv, vi n] w (Ret fun r w' => ∃ v' pvs', r = .tuple #[v', .bool (rlay pn f t a n).2] ∧ TrR w.heap.size w' v' (rlay pn f t a n).1 pvs' ∧ New w w') := by
  intro f
  induction f with
  | zero => intro a n t w Pt tv ht hp hs ha hn hf; omega
  | succ f ih =>
    intro a n t w Pt tv ht hp hs ha hn hf
    obtain ⟨y, hy⟩ := get_lt t ha
    obtain ⟨x, hx⟩ := get_lt pn hn
    have hxl := propsOk_len (treeOk_nd hpn hx).pr
    have hyl := hs.pr y (List.mem_of_getElem? hy)
    have hnl := treeOk_len hpn
    have hsl := hs.len
    rw [rlay, hy, hx]
    dsimp only
    generalize hps : x.props.foldl setPr y.props = ps
    have hpsl := foldl_setPr_length x.props y.props
    rw [hps] at hpsl
    obtain ⟨pa, pc, rfl, _, _⟩ := hp.form
    refine calls_of_Wc Tryd.func38 rfl Tryd.ntmps38 rfl ?_
    (repeat' (first | refine Wl.moveE (by conv => { lhs; whnf }) ?_ | refine Wl.assignE (by conv => { lhs; whnf }) ?_ | refine Wl.nil ?_ | refine Qseq.normal ?_ | refine Wc.seq ?_ | refine Wc.region ?_))
    refine Wl.call (Twin_spec ht (by omega) (fun z hz => by have := hs.pr z hz; omega)) rfl ?_
    rintro v1 w1 ⟨lab, pvs, to1, n1⟩
    have tr1 := to1.toR
    have hzl1 : (t.zip pvs).length = t.length := by simp [tr1.len]
    obtain ⟨g, gc, rfl, hgb, hgl, hob⟩ := tr1.arr.blk (by intro e; rw [e] at hzl1; simp at hzl1; omega)
    clear to1
    have hp1 := hp.keep stableNd n1.keep
    (repeat' (first | refine Wl.assignE (by conv => { lhs; whnf }) ?_ | refine Wl.nil ?_ | refine Qseq.normal ?_ | refine Wc.seq ?_))
    refine Wc.regionT rfl (by kernel_rfl) (New w1) (Chg.drew _ _) ?_
    intro w2 n2
    (repeat' (refine Wt.quiet rfl (Wq.moveE (by conv => { lhs; whnf }) (Wq.nil ?_))))
    refine Wt.quiet rfl (Wq.idxAddr tr1.rd (fun w' hw => hw.keep) rfl rfl (by omega) (by rw [Int.toNat_natCast]; exact hy) fun b o cs hl hR hat => Wq.nil ?_)
    obtain ⟨yv, rfl, hyr⟩ := hR
    (repeat' (refine Wt.quiet rfl (Wq.fieldAddr rfl rfl (Wq.nil ?_))))
    refine Wt.quiet rfl (Wq.load1 rfl (fun w' hw => (hat w' hw).get 2 rfl) (Wq.nil ?_))
    clear hat
    (repeat' (refine Wt.quiet rfl (Wq.moveE (by conv => { lhs; whnf }) (Wq.nil ?_))))
    refine Wt.quiet rfl (Wq.idxAddr hp1 (fun w' hw => hw.keep) rfl rfl (by omega) (by rw [Int.toNat_natCast]; exact hx) fun b o cs hl hR hat => Wq.nil ?_)
    obtain ⟨xv, rfl, hxr⟩ := hR
    (repeat' (refine Wt.quiet rfl (Wq.fieldAddr rfl rfl (Wq.nil ?_))))
    refine Wt.quiet rfl (Wq.load1 rfl (fun w' hw => (hat w' hw).get 2 rfl) (Wq.nil ?_))
    clear hat
    refine Wt.chain rfl (Wl.call (set_spec (hyr.keep (stable_flat pC) n2.keep) (hxr.keep (stable_flat pC) n2.keep) (by omega) (by omega)) rfl ?_)
    rintro sv w3 ⟨os3, n3⟩
    have n13 := New.trans n2 n3
    refine Wl.nil ⟨rfl, n13, ?_⟩
    rw [hps] at os3
    obtain ⟨sa, sc, rfl, hs1, hs2⟩ := os3.form
    have tr3 := tr1.new n13
    obtain ⟨qv, hqv, hzq⟩ := tr3.zip hy
    refine Wt.quiet rfl (Wq.idxP rfl rfl (by omega) (by omega) (Wq.nil ?_))
    (repeat' (refine Wt.quiet rfl (Wq.fieldAddr rfl rfl (Wq.nil ?_))))
    have z1 := n1.size
    have z2 := n2.size
    have z3 := n3.size
    refine Wt.last rfl (Wl.storeOwnF (f := ndV) (sz := 3) (o := 2) (j := a) (p := (y, qv)) (q := ({ y with props := ps }, (sa, ps.length, sc))) (u := .slice sa ps.length sc) (g := g) (cap := gc) (fun _ => rfl) (by omega) rfl hzq rfl tr3.arr rfl (by show Value.pointer (some ⟨g, 0 + (a : Int).toNat * 3 + 2, none⟩) = _; simp) rfl fun w4 o4 c4 => ?_)
    have tr4 := tr3.setAt (x' := { y with props := ps }) (q := (sa, ps.length, sc)) ha ((os3.rd (mono_flat pC)).mono (mono_flat pC) fun b _ e => by
      rcases e with e | e
      · exact ⟨by omega, fun e2 => by rw [hob] at e2; cases e2; omega⟩
      · exact e.elim) o4 c4
    have n04 : New w w4 := Chg.trans (New.trans n1 n13) c4 fun b hb e => by rw [hob] at e; cases e; omega
    clear tr3 tr1 os3 hyr hxr o4
    have ht4l : (t.set a { y with props := ps }).length = t.length := List.length_set
    have hy4 : (t.set a { y with props := ps })[a]? = some { y with props := ps } := by rw [List.getElem?_set, if_pos rfl, if_pos ha]
    generalize ht4 : t.set a { y with props := ps } = t4 at tr4 ht4l hy4
    (repeat' (first | refine Wl.moveE (by conv => { lhs; whnf }) ?_ | refine Wl.nil ?_ | refine Qseq.normal ?_ | refine Wc.seq ?_ | refine Wc.region ?_))
    refine Wl.idxAddr tr4.rd rfl rfl (by omega) (by rw [Int.toNat_natCast]; exact hy4) fun b o cs hl hR hat => ?_
    obtain ⟨v2, rfl, hpr2⟩ := hR
    replace hpr2 : RdS rPr 2 _ w4 v2 ps := hpr2
    obtain ⟨a2, c2, rfl, _, _⟩ := hpr2.form
    (repeat' (refine Wl.fieldAddr rfl rfl ?_))
    refine Wl.load1 rfl (hat.get 2 rfl) ?_
    clear hat hpr2
    (repeat' (first | refine Wl.moveE (by conv => { lhs; whnf }) ?_ | refine Wl.assignE (by conv => { lhs; whnf }) ?_ | refine Wl.nil ?_ | refine Wl.lenS rfl ?_ | refine Qseq.normal ?_ | refine Wc.seq ?_ | refine Wc.region ?_ | refine Wc.block ?_ | refine Wc.skip ?_ | refine Wc.ret ?_ | refine Qseq.ret ?_ | refine Wc.condT rfl ?_ | refine Wc.condF rfl ?_ | refine Wl.add rfl rfl (by omega) (by omega) ?_ | refine Wl.gtr rfl rfl (fun _ => ?_) (fun _ => ?_)))
    · rw [if_pos (by omega)]
      exact Qfn.ret2 rfl rfl rfl ⟨_, rfl, _, _, rfl, tr4, n04⟩
    · rw [if_neg (by omega)]
      have sm4 : Small t4 := ht4 ▸ hs.set hy (by omega)
      generalize hRr : rloop pn a n (fun t j k => rlay pn f t j k) ((List.range pn.length).drop (n + 1)) t4 = R
      refine Wc.loop (σ := Nat × Value × List Nd × List Sl) (fun s => [(0, s.2.1), (1, vi a), (2, .slice pa pn.length pc), (3, vi n), (10, vi s.1)])
        (fun s w' => n + 1 ≤ s.1 ∧ s.1 ≤ pn.length ∧ rloop pn a n (fun t j k => rlay pn f t j k) ((List.range pn.length).drop s.1) s.2.2.1 = R ∧ TrR w.heap.size w' s.2.1 s.2.2.1 s.2.2.2 ∧ Small s.2.2.1 ∧ a < s.2.2.1.length ∧ New w w') (fun s => pn.length - s.1)
        (n + 1, _, t4, _) ⟨rfl, rfl, rfl, rfl, rfl, trivial⟩ ⟨Nat.le_refl _, by dsimp only; omega, hRr, tr4, sm4, by dsimp only; omega, n04⟩ ?_
      clear tr4 hRr
      rintro ⟨k, vo, t5, qvs⟩ G w5 ⟨hk, hkl, hgo, tr5, sm5, ha5, n5⟩
      dsimp only at hk hkl hgo tr5 sm5 ha5
      simp only [upds]
      have hp5 := hp.keep stableNd n5.keep
      have hlen5 := sm5.len
      obtain ⟨oa, oc, rfl, _, _⟩ := tr5.rd.form
      (repeat' (first | refine Wl.moveE (by conv => { lhs; whnf }) ?_ | refine Wl.assignE (by conv => { lhs; whnf }) ?_ | refine Wl.nil ?_ | refine Wl.lenS rfl ?_ | refine Qseq.normal ?_ | refine Wc.seq ?_ | refine Wc.region ?_ | refine Wc.block ?_ | refine Wc.skip ?_ | refine Wc.exit ?_ | refine Wc.ret ?_ | refine Qseq.exit ?_ | refine Qblk.hit ?_ | refine Qloop.exit ?_ | refine Wc.condT rfl ?_ | refine Wc.condF rfl ?_ | refine Wl.lss rfl rfl (fun _ => ?_) (fun _ => ?_)))
      · obtain ⟨z, hz⟩ := get_lt pn (k := k) (by omega)
        rw [drop_cons (l := List.range pn.length) (i := k) (x := k) (by rw [List.getElem?_range (by omega)]), rloop, hz] at hgo
        dsimp only at hgo
        refine Wl.idxAddr hp5 rfl rfl (by omega) (by rw [Int.toNat_natCast]; exact hz) fun b o cs hl hR hat => ?_
        obtain ⟨_, rfl, _⟩ := hR
        (repeat' (refine Wl.fieldAddr rfl rfl ?_))
        refine Wl.load1 rfl (hat.get 0 rfl) ?_
        clear hat
        (repeat' (first | refine Wl.moveE (by conv => { lhs; whnf }) ?_ | refine Wl.assignE (by conv => { lhs; whnf }) ?_ | refine Wl.nil ?_ | refine Qseq.normal ?_ | refine Wc.seq ?_ | refine Wc.region ?_ | refine Wc.skip ?_ | refine Wc.exit ?_ | refine Qseq.exit ?_ | refine Qblk.hit ?_ | refine Wc.condT rfl ?_ | refine Wc.condF rfl ?_ | refine Wl.add rfl rfl (by omega) (by omega) ?_ | refine Wl.neq rfl rfl (fun _ => ?_) (fun _ => ?_)))
        · rw [if_pos (by assumption)] at hgo
          exact Qloop.normal (k + 1, _, t5, qvs) ⟨rfl, rfl, rfl, rfl, rfl, trivial⟩ ⟨by dsimp only; omega, by dsimp only; omega, hgo, tr5, sm5, ha5, n5⟩ (by dsimp only; omega)
        · rw [if_neg (by omega)] at hgo
          refine Wl.idxAddr hp5 rfl rfl (by omega) (by rw [Int.toNat_natCast]; exact hz) fun b o cs hl hR hat => ?_
          obtain ⟨_, rfl, _⟩ := hR
          (repeat' (refine Wl.fieldAddr rfl rfl ?_))
          refine Wl.load1 rfl (hat.get 1 rfl) ?_
          clear hat
          refine Wl.call (kid_spec (at_ := (a : Int)) (nm := z.name) tr5.rd) rfl ?_
          rintro _ _ ⟨rfl, rfl⟩
          cases hkid : kidL t5 (a : Int) z.name with
          | some j =>
            rw [hkid] at hgo
            dsimp only at hgo
            have hj : j < t5.length := by unfold kidL at hkid; exact (List.findIdx?_eq_some_iff_getElem.1 hkid).1
            (repeat' (first | refine Wl.moveE (by conv => { lhs; whnf }) ?_ | refine Wl.assignE (by conv => { lhs; whnf }) ?_ | refine Wl.nil ?_ | refine Qseq.normal ?_ | refine Wc.seq ?_ | refine Wc.region ?_ | refine Wc.skip ?_ | refine Wc.condF rfl ?_ | (refine Wl.lss rfl rfl (fun _ => ?_) (fun _ => ?_) <;> (first | (exfalso; contradiction) | skip))))
            refine Wl.call (ih j k t5 w5 _ _ tr5.rd hp5 sm5 hj (by omega) (by omega)) rfl ?_
            rintro _ w6 ⟨v6, pvs6, rfl, tr6, n6⟩
            have hsmall := rlay_small (pn := pn) f t5 j k sm5 hj
            generalize rlay pn f t5 j k = RR at hgo tr6 hsmall ⊢
            obtain ⟨t6, ok⟩ := RR
            cases ok with
            | false =>
              dsimp only at hgo tr6
              subst hgo
              (repeat' (first | refine Wl.moveE (by conv => { lhs; whnf }) ?_ | refine Wl.assignE (by conv => { lhs; whnf }) ?_ | refine Wl.nil ?_ | refine Wl.extract rfl rfl ?_ | refine Wl.notB rfl ?_ | refine Qseq.normal ?_ | refine Wc.seq ?_ | refine Wc.region ?_ | refine Wc.ret ?_ | refine Qseq.ret ?_ | refine Qblk.ret ?_ | refine Qloop.ret ?_ | refine Wc.condT rfl ?_))
              exact Qfn.ret2 rfl rfl rfl ⟨_, rfl, _, pvs6, rfl, tr6.low n5.size, New.trans n5 n6⟩
            | true =>
              dsimp only at hgo tr6 hsmall
              have hs6 := hsmall rfl
              (repeat' (first | refine Wl.moveE (by conv => { lhs; whnf }) ?_ | refine Wl.assignE (by conv => { lhs; whnf }) ?_ | refine Wl.nil ?_ | refine Wl.extract rfl rfl ?_ | refine Wl.notB rfl ?_ | refine Qseq.normal ?_ | refine Wc.seq ?_ | refine Wc.region ?_ | refine Wc.skip ?_ | refine Qblk.normal ?_ | refine Wc.condF rfl ?_ | refine Wl.add rfl rfl (by omega) (by omega) ?_))
              exact Qloop.normal (k + 1, v6, t6, pvs6) ⟨rfl, rfl, rfl, rfl, rfl, trivial⟩ ⟨by dsimp only; omega, by dsimp only; omega, hgo, tr6.low n5.size, hs6.1, by dsimp only; omega, New.trans n5 n6⟩ (by dsimp only; omega)
          | none =>
            rw [hkid] at hgo
            dsimp only at hgo
            (repeat' (first | refine Wl.moveE (by conv => { lhs; whnf }) ?_ | refine Wl.assignE (by conv => { lhs; whnf }) ?_ | refine Wl.nil ?_ | refine Wl.lenS rfl ?_ | refine Qseq.normal ?_ | refine Wc.seq ?_ | refine Wc.region ?_ | refine Wc.skip ?_ | refine Wc.ret ?_ | refine Qseq.ret ?_ | refine Qblk.ret ?_ | refine Qloop.ret ?_ | refine Wc.condT rfl ?_ | refine Wc.condF rfl ?_ | (refine Wl.lss rfl rfl (fun _ => ?_) (fun _ => ?_) <;> (first | (exfalso; contradiction) | skip)) | refine Wl.geq rfl rfl (fun _ => ?_) (fun _ => ?_)))
            · rw [if_pos (by omega)] at hgo
              subst hgo
              exact Qfn.ret2 rfl rfl rfl ⟨_, rfl, _, qvs, rfl, tr5, n5⟩
            · rw [if_neg (by omega)] at hgo
              refine Wl.idxAddr hp5 rfl rfl (by omega) (by rw [Int.toNat_natCast]; exact hz) fun b o cs hl hR hat => ?_
              obtain ⟨_, rfl, _⟩ := hR
              (repeat' (refine Wl.fieldAddr rfl rfl ?_))
              refine Wl.load1 rfl (hat.get 1 rfl) ?_
              clear hat
              refine Wl.call (put_spec (nm := z.name) tr5 n5.size ha5 (by omega) (fun q hq => by have := sm5.par q hq; omega)) rfl ?_
              rintro _ w6 ⟨v6, pvs6, rfl, tr6, n6⟩
              have n56 := New.trans n5 n6
              have hb := belowL_le ha5
              have hpl := putL_length t5 a z.name
              have sm6 := sm5.put (nm := z.name) ha5 (by omega)
              generalize putL t5 a z.name = t6 at hgo tr6 hpl sm6
              generalize a + belowL t5 a = j at hgo hb
              (repeat' (first | refine Wl.moveE (by conv => { lhs; whnf }) ?_ | refine Wl.assignE (by conv => { lhs; whnf }) ?_ | refine Wl.nil ?_ | refine Wl.extract rfl rfl ?_ | refine Qseq.normal ?_ | refine Wc.seq ?_ | refine Wc.region ?_))
              refine Wl.call (ih j k t6 w6 _ _ tr6.rd (hp5.keep stableNd n6.keep) sm6 (by omega) (by omega) (by omega)) rfl ?_
              rintro _ w7 ⟨v7, pvs7, rfl, tr7, n7⟩
              have hsmall := rlay_small (pn := pn) f t6 j k sm6 (by omega)
              generalize rlay pn f t6 j k = RR at hgo tr7 hsmall ⊢
              obtain ⟨t7, ok⟩ := RR
              cases ok with
              | false =>
                dsimp only at hgo tr7
                subst hgo
                (repeat' (first | refine Wl.moveE (by conv => { lhs; whnf }) ?_ | refine Wl.assignE (by conv => { lhs; whnf }) ?_ | refine Wl.nil ?_ | refine Wl.extract rfl rfl ?_ | refine Wl.notB rfl ?_ | refine Qseq.normal ?_ | refine Wc.seq ?_ | refine Wc.region ?_ | refine Wc.ret ?_ | refine Qseq.ret ?_ | refine Qblk.ret ?_ | refine Qloop.ret ?_ | refine Wc.condT rfl ?_))
                exact Qfn.ret2 rfl rfl rfl ⟨_, rfl, _, pvs7, rfl, tr7.low n56.size, New.trans n56 n7⟩
              | true =>
                dsimp only at hgo tr7 hsmall
                have hs7 := hsmall rfl
                (repeat' (first | refine Wl.moveE (by conv => { lhs; whnf }) ?_ | refine Wl.assignE (by conv => { lhs; whnf }) ?_ | refine Wl.nil ?_ | refine Wl.extract rfl rfl ?_ | refine Wl.notB rfl ?_ | refine Qseq.normal ?_ | refine Wc.seq ?_ | refine Wc.region ?_ | refine Wc.skip ?_ | refine Qblk.normal ?_ | refine Wc.condF rfl ?_ | refine Wl.add rfl rfl (by omega) (by omega) ?_))
                exact Qloop.normal (k + 1, v7, t7, pvs7) ⟨rfl, rfl, rfl, rfl, rfl, trivial⟩ ⟨by dsimp only; omega, by dsimp only; omega, hgo, tr7.low n56.size, hs7.1, by dsimp only; omega, New.trans n56 n7⟩ (by dsimp only; omega)
      · have e : k = pn.length := by omega
        subst e
        rw [List.drop_eq_nil_of_le (by simp), rloop] at hgo
        subst hgo
        exact Qfn.ret2 rfl rfl rfl ⟨_, rfl, _, qvs, rfl, tr5, n5⟩
end Go.Proofs.YtjpebmgllfiloaaDoor

namespace Go.Proofs.YtjpebmgllfiloaaDoor
open Go Wk
open Go.RowKit (Below)
attribute [local irreducible] Go.Calls

theorem atP_lt {nms : List (List UInt8)} : ∀ {τ σ : T} {b a : Nat}, atP nms τ b = some (σ, a) → b ≤ a ∧ a + szT σ ≤ b + szT τ := by
  induction nms with
  | nil => intro τ σ b a h; simp only [atP, Option.some.injEq, Prod.mk.injEq] at h; obtain ⟨rfl, rfl⟩ := h; exact ⟨Nat.le_refl _, Nat.le_refl _⟩
  | cons nm r ih =>
    intro τ σ b a h
    cases τ with
    | mk n p ks =>
      rw [atP] at h
      simp only [T.kids] at h
      cases hk : kidAt nm ks (b + 1) with
      | none => rw [hk] at h; cases h
      | some q =>
        rw [hk] at h
        obtain ⟨k1, k2, rfl, _, _, hb, _⟩ := kidAt_split hk
        have := ih h
        simp only [szT, szK_append, szK]
        omega
theorem findM_lt {t : List Nd} {s : List UInt8} {i : Nat} (ht : treeOk t = true) (h : findM t s = some i) : i < t.length := by
  obtain ⟨τ, rfl, _⟩ := treeOk_parse ht
  rw [findM_T] at h
  cases hn : pathN s with
  | none => rw [hn] at h; cases h
  | some nms =>
    rw [hn] at h
    simp only [Option.bind_some] at h
    cases ha : atP nms τ 0 with
    | none => rw [ha] at h; cases h
    | some q =>
      rw [ha] at h
      obtain ⟨σ, a⟩ := q
      simp only [Option.map_some, Option.some.injEq] at h
      subst h
      have h1 := atP_lt ha
      have h2 := szT_pos σ
      rw [flT_length]; omega
theorem pieceOk_nodes {p : Pc} (h : pieceOk p = true) : treeOk p.nodes = true := by
  unfold pieceOk at h
  simp only [Bool.and_eq_true] at h
  exact h.1
mutual
theorem ndsT_props {H : List Kn} : ∀ (τ : T) (i : Nat) (ids : List Nat), Is H τ i ids → bigT τ = false → ∀ j ∈ ids, ∀ y, H[j]? = some y → y.props.length ≤ 32
  | .mk n p ks, i, ids, h, hb, j, hj, y, hy => by
    simp only [Is] at h
    simp only [bigT, Bool.or_eq_false_iff, decide_eq_false_iff_not] at hb
    obtain ⟨kk, r, h1, rfl, h2⟩ := h
    rcases List.mem_cons.1 hj with rfl | hj
    · rw [h1] at hy; cases hy; dsimp only; omega
    · exact ndsK_props ks kk r h2 hb.2 j hj y hy
theorem ndsK_props {H : List Kn} : ∀ (ks : List T) (l ids : List Nat), IsL H ks l ids → bigK ks = false → ∀ j ∈ ids, ∀ y, H[j]? = some y → y.props.length ≤ 32
  | [], l, ids, h, _, j, hj, y, hy => by simp only [IsL] at h; rw [h.2] at hj; simp at hj
  | t :: ts, l, ids, h, hb, j, hj, y, hy => by
    simp only [IsL] at h
    simp only [bigK, Bool.or_eq_false_iff] at hb
    obtain ⟨j', r, a, b, rfl, rfl, h1, h2⟩ := h
    rcases List.mem_append.1 hj with hj | hj
    · exact ndsT_props t j' a h1 hb.1 j hj y hy
    · exact ndsK_props ts r b h2 hb.2 j hj y hy
end
theorem knots_props (τ : T) (h : okTree τ = true) (j : Nat) (y : Kn) (hy : (knotsM (flT τ (-1) 0))[j]? = some y) : y.props.length ≤ 32 := by
  unfold okTree at h
  simp only [Bool.and_eq_true] at h
  have hl := (List.getElem?_eq_some_iff.1 hy).1
  rw [knotsM_length, flT_length] at hl
  exact ndsT_props τ 0 _ (knotsM_is τ) (okT_big τ 1 h.2.2) j (List.mem_range.2 hl) y hy
/-- What a laid graph comes to. -/
theorem lay_flat {t : List Nd} {p : Pc} {i : Nat} (ht : treeOk t = true) (hp : pieceOk p = true) (hi : findM t p.target = some i) {r : LayR} (hr : layG p.nodes p.nodes.length i 0 (dropG p.drop (knotsM t) i) (t.length : Int) = r) (hr1 : r.1 = true) :
    (flatG r.2.1 r.2.1.length 0 (-1) []).length = r.2.1.length := by
  obtain ⟨τ, rfl, _⟩ := treeOk_parse ht
  obtain ⟨π, hπ, _⟩ := treeOk_parse (pieceOk_nodes hp)
  rw [hπ] at hr
  rw [findM_T] at hi
  cases hn : pathN p.target with
  | none => rw [hn] at hi; cases hi
  | some nms =>
    rw [hn] at hi
    simp only [Option.bind_some] at hi
    cases ha : atP nms τ 0 with
    | none => rw [ha] at hi; cases hi
    | some q =>
      rw [ha] at hi
      obtain ⟨σ, a⟩ := q
      cases hi
      obtain ⟨h1, h2, _⟩ := (lay_run ha r hr).1 hr1
      rw [h1, flT_length, h2]

set_option maxHeartbeats 2000000 in
set_option maxRecDepth 4000 in
theorem Lay_spec {Pb : Nat → Prop} {w : World} {tv nv dv : Value} {t : List Nd} {p : Pc} (ht : RdS rNd 3 Pb w tv t) (hn : RdS rNd 3 Pb w nv p.nodes) (hd : RdS (one vs) 1 Pb w dv p.drop) (hs : p.target.length ≤ 2000000) :
    Calls Tryd.prog 12 #[tv, .agg #[vs p.target, nv, dv]] w (Ret fun r w' => ∃ v, r = .tuple #[v, vi (layM t p).2] ∧ New w w' ∧ ∃ lab pvs, TrOwn w.heap.size lab w' v (layM t p).1 pvs) := by
  refine calls_of_Wc Tryd.func12 rfl Tryd.ntmps12 rfl ?_
  (repeat' (first | refine Wc.seq ?_ | refine Wc.region ?_))
  refine Wl.box rfl fun w1 b1 n1 s1 => ?_
  replace b1 : Bk w1 w.heap.size 25 [vs p.target, nv, dv] := b1
  (repeat' (first | refine Wl.moveE (by conv => { lhs; whnf }) ?_ | refine Wl.assignE (by conv => { lhs; whnf }) ?_ | refine Wl.nil ?_ | refine Qseq.normal ?_ | refine Wc.seq ?_ | refine Wc.region ?_))
  refine Wl.call (may_spec (ht.keep stableNd n1.keep)) rfl ?_
  rintro _ w2 ⟨rfl, n2⟩
  replace b1 := b1.chg n2 id
  replace n2 := New.trans n1 n2
  unfold layM
  cases hok : treeOk t with
  | false =>
    rw [if_neg (by simp)]
    (repeat' (first | refine Wl.assignE (by conv => { lhs; whnf }) ?_ | refine Wl.nil ?_ | refine Wl.notB rfl ?_ | refine Qseq.normal ?_ | refine Wc.seq ?_ | refine Wc.region ?_ | refine Wc.ret ?_ | refine Qseq.ret ?_ | refine Wc.condT rfl ?_))
    exact Qfn.ret2 rfl rfl rfl ⟨_, rfl, _, rfl, n2, _, [], TrOwn.nil⟩
  | true =>
    rw [if_pos rfl]
    (repeat' (first | refine Wl.nil ?_ | refine Wl.notB rfl ?_ | refine Qseq.normal ?_ | refine Wc.seq ?_ | refine Wc.region ?_ | refine Wc.skip ?_ | refine Wc.condF rfl ?_))
    refine Wl.loadB b1 rfl rfl ?_
    refine Wl.call (CheckP_spec (p := p) (hn.keep stableNd n2.keep) (hd.keep (stable_one _) n2.keep)) rfl ?_
    rintro _ w3 ⟨rfl, n3⟩
    replace b1 := b1.chg n3 id
    replace n3 := New.trans n2 n3
    unfold pieceE
    cases hpk : pieceOk p with
    | false =>
      rw [if_neg (by simp), if_neg (by simp)]
      (repeat' (first | refine Wl.moveE (by conv => { lhs; whnf }) ?_ | refine Wl.assignE (by conv => { lhs; whnf }) ?_ | refine Wl.nil ?_ | refine Qseq.normal ?_ | refine Wc.seq ?_ | refine Wc.region ?_ | refine Wc.ret ?_ | refine Qseq.ret ?_ | refine Wc.condT rfl ?_ | (refine Wl.neq rfl rfl (fun _ => ?_) (fun _ => ?_) <;> (first | (exfalso; omega) | skip))))
      exact Qfn.ret2 rfl rfl rfl ⟨_, rfl, _, rfl, n3, _, [], TrOwn.nil⟩
    | true =>
      rw [if_pos rfl, if_pos rfl]
      (repeat' (first | refine Wl.moveE (by conv => { lhs; whnf }) ?_ | refine Wl.assignE (by conv => { lhs; whnf }) ?_ | refine Wl.nil ?_ | refine Qseq.normal ?_ | refine Wc.seq ?_ | refine Wc.region ?_ | refine Wc.skip ?_ | refine Wc.condF rfl ?_ | refine Wl.fieldAddr rfl rfl ?_ | (refine Wl.neq rfl rfl (fun _ => ?_) (fun _ => ?_) <;> (first | (exfalso; omega) | skip))))
      refine Wl.load1 rfl (b1.cell (o := 0) rfl) ?_
      refine Wl.call (Find_spec (ht.keep stableNd n3.keep) hs) rfl ?_
      rintro _ w4 ⟨rfl, n4⟩
      replace b1 := b1.chg n4 id
      replace n4 := New.trans n3 n4
      unfold findR
      rw [if_pos hok]
      cases hfi : findM t p.target with
      | none =>
        dsimp only
        (repeat' (first | refine Wl.moveE (by conv => { lhs; whnf }) ?_ | refine Wl.assignE (by conv => { lhs; whnf }) ?_ | refine Wl.nil ?_ | refine Wl.extract rfl rfl ?_ | refine Qseq.normal ?_ | refine Wc.seq ?_ | refine Wc.region ?_ | refine Wc.ret ?_ | refine Qseq.ret ?_ | refine Wc.condT rfl ?_ | (refine Wl.neq rfl rfl (fun _ => ?_) (fun _ => ?_) <;> (first | (exfalso; omega) | skip))))
        exact Qfn.ret2 rfl rfl rfl ⟨_, rfl, _, rfl, n4, _, [], TrOwn.nil⟩
      | some i =>
        dsimp only
        have hil := findM_lt hok hfi
        have htl := treeOk_len hok
        have hpl := treeOk_pos (pieceOk_nodes hpk)
        have hpl2 := treeOk_len (pieceOk_nodes hpk)
        (repeat' (first | refine Wl.moveE (by conv => { lhs; whnf }) ?_ | refine Wl.assignE (by conv => { lhs; whnf }) ?_ | refine Wl.nil ?_ | refine Wl.extract rfl rfl ?_ | refine Qseq.normal ?_ | refine Wc.seq ?_ | refine Wc.region ?_ | refine Wc.skip ?_ | refine Wc.condF rfl ?_ | (refine Wl.neq rfl rfl (fun _ => ?_) (fun _ => ?_) <;> (first | (exfalso; omega) | skip))))
        refine Wl.call (knots_spec (ht.keep stableNd n4.keep) hok) rfl ?_
        rintro lv w5 ⟨bs, lab, kg5, ol5, n5⟩
        have b5 := b1.chg n5 id
        have n05 := New.trans n4 n5
        obtain ⟨la, lc, rfl, hlc1, hlc2⟩ := ol5.form
        have hgl := knotsM_length t
        have hbl : bs.length = t.length := by rw [kg5.len, hgl]
        simp only [List.length_map, maxLen] at hlc1 hlc2
        obtain ⟨k, hk⟩ := get_lt (knotsM t) (k := i) (by omega)
        obtain ⟨pv, kv, ka5⟩ := kg5.at' i k hk
        have kb5 : Bk w5 (bs.getD i 0) tKn [vs k.name, pv, kv] := ka5.bk
        have kp5 : OwnPr (fun x => lab x = some (i, 1)) w5 pv k.props := ka5.pr
        have hbget : ∀ j, j < t.length → (bs.map some)[j]? = some (some (bs.getD j 0)) := fun j hj => by
          rw [List.getElem?_map, List.getD_eq_getElem?_getD, List.getElem?_eq_getElem (by omega)]; rfl
        have hpb : lab w.heap.size = none := kg5.lab_none (.inr (by have := b1.lt; omega))
        (repeat' (first | refine Wl.assignE (by conv => { lhs; whnf }) ?_ | refine Wl.nil ?_ | refine Qseq.normal ?_ | refine Wc.seq ?_))
        refine Wc.regionT rfl (by kernel_rfl) (fun w' => Chg (fun b => lab b = some (i, 1)) w5 w') (Chg.drew _ _) ?_
        intro w6 n6
        (repeat' (refine Wt.quiet rfl (Wq.moveE (by conv => { lhs; whnf }) (Wq.nil ?_))))
        have hls : ∀ w', Chg (fun b => lab b = some (i, 1)) w5 w' → Keep (fun b => (w4.heap.size ≤ b ∧ lab b = none) ∨ No b) w5 w' := fun w' hw => hw.keep fun b _ hb e => by
          rcases hb with hb | hb
          · rw [hb.2] at e; cases e
          · exact hb
        refine Wt.quiet rfl (Wq.idxAddrV (ol5.rd (mono_one _)) hls rfl rfl (by omega) (hbget i (by omega)) (fun b o hc => Wq.nil ?_))
        refine Wt.quiet rfl (Wq.load1 rfl hc (Wq.nil ?_))
        (repeat' (refine Wt.quiet rfl (Wq.moveE (by conv => { lhs; whnf }) (Wq.nil ?_))))
        refine Wt.quiet rfl (Wq.idxAddrV (ol5.rd (mono_one _)) hls rfl rfl (by omega) (hbget i (by omega)) (fun b o hc => Wq.nil ?_))
        refine Wt.quiet rfl (Wq.load1 rfl hc (Wq.nil ?_))
        have hkb : ∀ w', Chg (fun b => lab b = some (i, 1)) w5 w' → Bk w' (bs.getD i 0) tKn [vs k.name, pv, kv] := fun w' hw => kb5.chg hw (fun e => by rw [ka5.lb] at e; cases e)
        (repeat' (first | refine Wt.quiet rfl (Wq.nilP rfl (Wq.nil ?_)) | refine Wt.quiet rfl (Wq.fieldAddr rfl rfl (Wq.nil ?_))))
        refine Wt.quiet rfl (Wq.load1 rfl (fun w' hw => (hkb w' hw).cell (o := 1) rfl) (Wq.nil ?_))
        refine Wt.chain rfl (Wl.makeFunc (first := []) (cap := [.tmp 3]) rfl rfl ?_)
        refine Wl.nil ⟨rfl, n6.any, ?_⟩
        have b6 := b5.chg n6 id
        have hd6 := hd.keep (stable_one _) (New.trans n05 n6).keep
        have kp6 := kp5.new plainPr n6
        refine Wt.chain rfl (Wl.call (DeleteFunc_spec (p := fun y => p.drop.contains y.1) (fg := 43) (fc := #[ptrV w.heap.size]) kp6 (fun y w' hy hw => Lay1_spec (b6.chg hw (fun e => by have := (kp6.lt e).1; rw [hpb] at this; cases this))
          (hd.keep (stable_one _) (Chg.keep (Chg.trans (New.trans n05 n6).any hw (M := fun b => w.heap.size ≤ b) (fun b hb e => by have := (kg5.low b _ (kp6.lt e).1).1; have := n4.size; omega)) (fun b hb _ e => by omega))))) rfl ?_)
        rintro pv7 w7 ⟨kp7, hob7, c7⟩
        have c57 : Chg (fun b => lab b = some (i, 1)) w5 w7 := Chg.trans n6.any c7 (fun b _ e => (kp6.lt e).1)
        refine Wl.nil ⟨rfl, c57, ?_⟩
        (repeat' (first | refine Wt.quiet rfl (Wq.nilP rfl (Wq.nil ?_)) | refine Wt.quiet rfl (Wq.fieldAddr rfl rfl (Wq.nil ?_))))
        have h7 : pv7.oneCell' = true := by obtain ⟨_, _, rfl, _⟩ := kp7.form; rfl
        refine Wt.last rfl (Wl.store1 (hkb w7 c57) rfl (show (1 : Nat) < 3 by omega) rfl h7 fun w8 b8 c8 => ?_)
        replace b8 : Bk w8 (bs.getD i 0) tKn [vs k.name, pv7, kv] := b8
        have kg6 := kg5.new n6
        have lo6 : w4.heap.size ≤ w6.heap.size := by have := n5.size; have := n6.size; omega
        have cT : Chg (fun b => ∃ q, lab b = some (i, q)) w6 w8 := Chg.trans (c7.mono fun b _ e => ⟨1, (kp6.lt e).1⟩) c8 fun b _ e => ⟨0, by rw [e]; exact ka5.lb⟩
        have kk6 : OwnKids (fun x => lab x = some (i, 2)) w6 kv (k.kids.map fun j => bs.getD j 0) := (ka5.chg n6 (fun _ e => e.elim)).kd
        have kk8 := (kk6.chg (plain_one _) c7 (fun b e1 e2 => by have h1 := (kk6.lt e1).1; rw [(kp6.lt e2).1] at h1; cases h1)).chg (plain_one _) c8 (fun b e1 e2 => by have h1 := (kk6.lt e1).1; rw [e2, ka5.lb] at h1; cases h1)
        have kp8 := kp7.chg plainPr c8 (fun b e1 e2 => by have h1 := (kp7.lt e1).1; rw [e2, ka5.lb] at h1; cases h1)
        have sp : Sep pv7 kv := fun b e1 e2 => by have h1 := (kk6.lt e2).1; rw [(kp6.lt (hob7 b e1)).1] at h1; cases h1
        obtain ⟨lab8, kg8, hl8⟩ := kg6.set (i := i) (k' := { k with props := dropPr p.drop k.props }) (pv' := pv7) (kv' := kv) lo6 hk cT b8 (kp8.mono (mono_flat pC) (fun b _ e => .inl e) (fun _ _ e => e)) (kk8.mono (mono_one _) (fun b _ e => .inl e) (fun _ _ e => e)) sp (fun j hj => kg6.kid i k hk j hj) (kg6.nd i k hk)
        have hdG : dropG p.drop (knotsM t) i = (knotsM t).set i { k with props := dropPr p.drop k.props } := by unfold dropG; rw [hk]
        rw [← hdG] at kg8
        have hdl : (dropG p.drop (knotsM t) i).length = t.length := by rw [hdG, List.length_set, hgl]
        have b68 : Bk w8 w.heap.size 25 [vs p.target, nv, dv] := b6.chg cT (fun ⟨q, e⟩ => by rw [hpb] at e; cases e)
        have n08 : New w w8 := Chg.trans (New.trans n05 n6) cT fun b hb ⟨q, e⟩ => by have := (kg5.low b _ e).1; have := n4.size; omega
        obtain ⟨ta, tc, rfl, _, _⟩ := ht.form
        (repeat' (first | refine Wl.nil ?_ | refine Qseq.normal ?_ | refine Wc.seq ?_ | refine Wc.region ?_ | refine Wl.fieldAddr rfl rfl ?_))
        refine Wl.load1 rfl (b68.cell (o := 1) rfl) ?_
        (repeat' (first | refine Wl.moveE (by conv => { lhs; whnf }) ?_ | refine Wl.lenS rfl ?_))
        refine Wl.buildF (ps := [(0, .tmp 47), (1, .tmp 49)]) (parts := [(0, nv), (1, vi t.length)]) rfl rfl (by
          obtain ⟨_, _, rfl, _⟩ := hn.form
          simp [Value.cells]) ?_
        refine Wl.alloc fun w9 b9 n9 s9 => ?_
        obtain ⟨na, nc, rfl, _, _⟩ := hn.form
        refine Wl.storeB (new := [.slice na p.nodes.length nc, vi t.length]) b9 rfl rfl rfl rfl (show (2 : Nat) ≤ 2 from Nat.le_refl 2) (by
          intro c hc
          simp at hc
          rcases hc with rfl | rfl <;> rfl) fun w10 b10 c10 s10 => ?_
        replace b10 : Bk w10 w8.heap.size 82 [.slice na p.nodes.length nc, vi t.length] := b10
        have n810 : New w8 w10 := Chg.trans n9 c10 fun b hb e => by omega
        have n010 := New.trans n08 n810
        have kg10 := kg8.new n810
        have lb10 : lab8 w8.heap.size = none := kg8.lab_none (.inl (Nat.le_refl _))
        have ol8 : OwnS (one optV) 78 1 (fun b => w4.heap.size ≤ b ∧ lab b = none) No w8 (.slice la (bs.map some).length lc) (bs.map some) := (ol5.new (plain_one _) n6).chg (plain_one _) cT (fun b e1 ⟨q, e⟩ => by rw [(ol5.lt e1).1.2] at e; cases e)
        have ol10 := ol8.new (plain_one _) n810
        have s8 : w4.heap.size ≤ w8.heap.size := by have := cT.size; omega
        have hL : LayW w4.heap.size w8.heap.size lab8 w10 bs (dropG p.drop (knotsM t) i) (.slice na p.nodes.length nc) p.nodes (t.length : Int) :=
          ⟨kg10, b10, ⟨s8, lb10⟩, (hn.mono (Pb' := fun b => b < w4.heap.size) monoNd (fun b hb _ => by have := n4.size; omega)).keep stableNd n010.keep, by rw [hdl], fun j y hy => by
            rw [hdG, List.getElem?_set] at hy
            have hkn : ∀ (j : Nat) (y : Kn), (knotsM t)[j]? = some y → y.props.length ≤ 32 := fun j y hy => by
              have htt := treeOk_parse hok
              obtain ⟨τ, rfl, hτ⟩ := htt
              exact knots_props τ hτ j y hy
            split at hy
            · split at hy
              · simp only [Option.some.injEq] at hy
                subst hy
                exact Nat.le_trans (List.length_filter_le _ _) (hkn i k hk)
              · cases hy
            · exact hkn j y hy, by have := n810.size; omega⟩
        (repeat' (first | refine Wl.moveE (by conv => { lhs; whnf }) ?_ | refine Wl.nil ?_ | refine Qseq.normal ?_ | refine Wc.seq ?_ | refine Wc.region ?_))
        refine Wl.idxAddrV (ol10.rd (mono_one _)) rfl rfl (by omega) (hbget i (by omega)) fun b o hc => ?_
        refine Wl.load1 rfl hc ?_
        have hlay := lay_flat hok hpk hfi rfl
        have hcall := lay_spec (pieceOk_nodes hpk) p.nodes.length i 0 _ _ w10 bs lab8 (by rw [hdl]; exact hil) hpl (by omega) (by omega) hL
        rw [show ((0 : Nat) : Int) = 0 from rfl] at hcall
        refine Wl.call hcall rfl ?_
        rintro _ w11 ⟨rfl, c11, hres⟩
        generalize layG p.nodes p.nodes.length i 0 (dropG p.drop (knotsM t) i) (t.length : Int) = R at hlay hres ⊢
        obtain ⟨ok, G2, c2⟩ := R
        have n011 : New w w11 := Chg.trans n010 c11 fun b hb e => by
          rcases e with e | e
          · have := n08.size; omega
          · exact e (kg8.lab_none (.inr (by have := n4.size; omega)))
        cases ok with
        | false =>
          dsimp only
          (repeat' (first | refine Wl.assignE (by conv => { lhs; whnf }) ?_ | refine Wl.nil ?_ | refine Wl.notB rfl ?_ | refine Qseq.normal ?_ | refine Wc.seq ?_ | refine Wc.region ?_ | refine Wc.ret ?_ | refine Qseq.ret ?_ | refine Wc.condT rfl ?_))
          exact Qfn.ret2 rfl rfl rfl ⟨_, rfl, _, rfl, n011, _, [], TrOwn.nil⟩
        | true =>
          dsimp only at hlay hres ⊢
          replace hlay := hlay rfl
          obtain ⟨lab11, bs', hw11, hc11, hl11⟩ := hres rfl
          have hgl11 := hw11.gl
          have ol11 := ol10.chg (plain_one _) c11 (fun b e1 e2 => by
            have h1 := ol8.lt e1
            rcases e2 with e2 | e2
            · omega
            · rw [hl8 b (by have := (ol5.lt e1).2; have := n6.size; omega), h1.1.2] at e2
              exact e2 rfl)
          (repeat' (first | refine Wl.moveE (by conv => { lhs; whnf }) ?_ | refine Wl.nil ?_ | refine Wl.notB rfl ?_ | refine Qseq.normal ?_ | refine Wc.seq ?_ | refine Wc.region ?_ | refine Wc.skip ?_ | refine Wc.condF rfl ?_))
          refine Wl.idxAddrV (ol11.rd (mono_one _)) rfl rfl (by omega) (hbget 0 (by omega)) fun b o hc => ?_
          refine Wl.load1 rfl hc ?_
          have hg0 : (bs ++ bs').getD 0 0 = bs.getD 0 0 := by
            rw [List.getD_eq_getElem?_getD, List.getElem?_append_left (by omega), ← List.getD_eq_getElem?_getD]
          have hflat := flat_spec hw11.kg (i := 0) (by have := hw11.kg.len; rw [List.length_append] at this; omega) (fun j y hy => by have := hw11.pl j y hy; omega) (by omega) (by rw [hlay]; omega)
          rw [hg0] at hflat
          refine Wl.call hflat rfl ?_
          rintro ov w12 ⟨lab12, pvs12, to12, n12⟩
          (repeat' (first | refine Wl.moveE (by conv => { lhs; whnf }) ?_ | refine Wl.assignE (by conv => { lhs; whnf }) ?_ | refine Wl.nil ?_ | refine Qseq.normal ?_ | refine Wc.seq ?_ | refine Wc.region ?_))
          refine Wl.call (may_spec to12.rd) rfl ?_
          rintro _ w13 ⟨rfl, n13⟩
          have n013 := New.trans (New.trans n011 n12) n13
          cases hout : treeOk (flatG G2 G2.length 0 (-1) []) with
          | false =>
            rw [if_neg (by simp)]
            (repeat' (first | refine Wl.assignE (by conv => { lhs; whnf }) ?_ | refine Wl.nil ?_ | refine Wl.notB rfl ?_ | refine Qseq.normal ?_ | refine Wc.seq ?_ | refine Wc.region ?_ | refine Wc.ret ?_ | refine Qseq.ret ?_ | refine Wc.condT rfl ?_))
            exact Qfn.ret2 rfl rfl rfl ⟨_, rfl, _, rfl, n013, _, [], TrOwn.nil⟩
          | true =>
            rw [if_pos rfl]
            (repeat' (first | refine Wl.moveE (by conv => { lhs; whnf }) ?_ | refine Wl.assignE (by conv => { lhs; whnf }) ?_ | refine Wl.nil ?_ | refine Wl.notB rfl ?_ | refine Qseq.normal ?_ | refine Wc.seq ?_ | refine Wc.region ?_ | refine Wc.skip ?_ | refine Wc.ret ?_ | refine Wc.condF rfl ?_))
            have to13 := to12.new n13
            exact Qfn.ret2 rfl rfl rfl ⟨_, rfl, _, rfl, n013, lab12, pvs12, to13.len, fun b c e => ⟨by have := (to13.low b c e).1; have := n011.size; omega, (to13.low b c e).2⟩, to13.arr, to13.pr⟩
end Go.Proofs.YtjpebmgllfiloaaDoor

namespace Go.Proofs.YtjpebmgllfiloaaDoor
open Go Wk
open Go.RowKit (Below)
attribute [local irreducible] Go.Calls

theorem pathOf_len {t : List Nd} (ht : treeOk t = true) {i : Nat} (hi : i < t.length) : (pathS (nmsOf t i)).length ≤ 17000 := by
  have h1 := pathS_len (l := nmsOf t i) fun n hn => (nmsOf_good ht i n hn).2
  have h2 := nmsOf_len ht i
  have h3 := treeOk_len ht
  omega
set_option maxRecDepth 4000 in
theorem Path_spec {Pb : Nat → Prop} {v : Value} {t : List Nd} (ht : treeOk t = true) : ∀ (i : Nat), i < t.length → ∀ (w : World), RdS rNd 3 Pb w v t →
    Calls Tryd.prog 22 #[v, vi i] w (Ret fun r w' => r = vs (pathS (nmsOf t i)) ∧ New w w') := by
  intro i
  induction i using Nat.strongRecOn with
  | ind i ih =>
    intro hi w h
    obtain ⟨a, cap, rfl, hc1, hc2⟩ := h.form
    refine calls_of_Wc Tryd.func22 rfl Tryd.ntmps22 rfl ?_
    (repeat' (first | refine Wl.moveE (by conv => { lhs; whnf }) ?_ | refine Wl.assignE (by conv => { lhs; whnf }) ?_ | refine Wl.nil ?_ | refine Qseq.normal ?_ | refine Wc.seq ?_ | refine Wc.region ?_ | refine Wc.skip ?_ | refine Wc.ret ?_ | refine Qseq.ret ?_ | refine Wc.condT rfl ?_ | refine Wc.condF rfl ?_ | refine Wl.eql rfl rfl (fun _ => ?_) (fun _ => ?_)))
    · obtain rfl : i = 0 := by omega
      exact Qfn.ret1 rfl rfl ⟨_, rfl, rfl, Chg.refl _ _⟩
    · obtain ⟨x, hx⟩ := get_lt t hi
      have hi0 : i ≠ 0 := by omega
      have hk := (treeOk_nd ht hx).kid hi0
      have hxl := nameOk_len hk.2.2
      obtain ⟨p, hp⟩ := Int.eq_ofNat_of_zero_le hk.1
      have hpl := pathOf_len ht (i := p) (by omega)
      have hst := pathS_step (l := nmsOf t p) (n := x.name) fun m hm => (nmsOf_good ht p m hm).1
      rw [nmsOf_step ht hx hi0, hp, Int.toNat_natCast, hst]
      refine Wl.idxAddr h rfl rfl (by omega) hx fun b o cs hl hR hat => ?_
      obtain ⟨pv, rfl, hpr⟩ := hR
      (repeat' (refine Wl.fieldAddr rfl rfl ?_))
      refine Wl.load1 rfl (hat.get 0 rfl) ?_
      refine Wl.call (ih p (by omega) (by omega) w h) (by show [_, vi x.parent] = [_, vi p]; rw [hp]; rfl) ?_
      rintro _ w1 ⟨rfl, n1⟩
      have h1 := h.keep stableNd n1.keep
      (repeat' (first | refine Wl.moveE (by conv => { lhs; whnf }) ?_ | refine Wl.assignE (by conv => { lhs; whnf }) ?_ | refine Wl.nil ?_ | refine Qseq.normal ?_ | refine Wc.seq ?_ | refine Wc.region ?_ | refine Wc.skip ?_ | refine Wc.condT rfl ?_ | refine Wc.condF rfl ?_ | refine Wl.seql rfl rfl (fun _ => ?_) (fun _ => ?_)))
      · rw [if_pos (by assumption)]
        refine Wl.sadd rfl rfl (by simp) ?_
        (repeat' (refine Wl.moveE (by conv => { lhs; whnf }) ?_))
        refine Wl.idxAddr h1 rfl rfl (by omega) hx fun b o cs hl hR hat => ?_
        obtain ⟨pv, rfl, hpr⟩ := hR
        (repeat' (refine Wl.fieldAddr rfl rfl ?_))
        refine Wl.load1 rfl (hat.get 1 rfl) ?_
        refine Wl.sadd rfl rfl (by simp; omega) ?_
        (repeat' (first | refine Wl.assignE (by conv => { lhs; whnf }) ?_ | refine Wl.nil ?_ | refine Qseq.normal ?_ | refine Wc.ret ?_))
        exact Qfn.ret1 rfl rfl ⟨_, rfl, rfl, n1⟩
      · rw [if_neg (by assumption)]
        refine Wl.sadd rfl rfl (by simp; omega) ?_
        (repeat' (refine Wl.moveE (by conv => { lhs; whnf }) ?_))
        refine Wl.idxAddr h1 rfl rfl (by omega) hx fun b o cs hl hR hat => ?_
        obtain ⟨pv, rfl, hpr⟩ := hR
        (repeat' (refine Wl.fieldAddr rfl rfl ?_))
        refine Wl.load1 rfl (hat.get 1 rfl) ?_
        refine Wl.sadd rfl rfl (by simp; omega) ?_
        (repeat' (first | refine Wl.assignE (by conv => { lhs; whnf }) ?_ | refine Wl.nil ?_ | refine Qseq.normal ?_ | refine Wc.ret ?_))
        exact Qfn.ret1 rfl rfl ⟨_, rfl, rfl, n1⟩
theorem at_spec {Pb : Nat → Prop} {w : World} {v : Value} {t : List Nd} {s : List UInt8} (ht : treeOk t = true) (h : RdS rNd 3 Pb w v t) :
    Calls Tryd.prog 23 #[v, vs s] w (Ret fun r w' => (∃ k : Int, r = vi k ∧ ((k = -1 ∧ ∀ j, j < t.length → pathS (nmsOf t j) ≠ s) ∨ ∃ j : Nat, k = j ∧ j < t.length ∧ pathS (nmsOf t j) = s)) ∧ New w w') := by
  obtain ⟨a, cap, rfl, hc1, hc2⟩ := h.form
  have htl := treeOk_len ht
  refine calls_of_Wc Tryd.func23 rfl Tryd.ntmps23 rfl ?_
  (repeat' (first | refine Wl.assignE (by conv => { lhs; whnf }) ?_ | refine Wl.nil ?_ | refine Qseq.normal ?_ | refine Wc.seq ?_ | refine Wc.region ?_ | refine Wc.block ?_))
  refine Wc.loop (σ := Nat) (fun i => [(0, .slice a t.length cap), (1, vs s), (5, vi i)]) (fun i w' => i ≤ t.length ∧ (∀ j, j < i → pathS (nmsOf t j) ≠ s) ∧ New w w') (fun i => t.length - i) 0 ⟨rfl, rfl, rfl, trivial⟩ ⟨Nat.zero_le _, fun j hj => by omega, Chg.refl _ _⟩ ?_
  rintro i G w1 ⟨hi, hall, n1⟩
  simp only [upds]
  (repeat' (first | refine Wl.moveE (by conv => { lhs; whnf }) ?_ | refine Wl.assignE (by conv => { lhs; whnf }) ?_ | refine Wl.nil ?_ | refine Wl.lenS rfl ?_ | refine Qseq.normal ?_ | refine Wc.seq ?_ | refine Wc.region ?_ | refine Wc.block ?_ | refine Wc.skip ?_ | refine Wc.exit ?_ | refine Wc.ret ?_ | refine Qseq.exit ?_ | refine Qblk.hit ?_ | refine Qloop.exit ?_ | refine Wc.condT rfl ?_ | refine Wc.condF rfl ?_ | refine Wl.lss rfl rfl (fun _ => ?_) (fun _ => ?_)))
  · refine Wl.call (Path_spec ht i (by omega) w1 (h.keep stableNd n1.keep)) rfl ?_
    rintro _ w2 ⟨rfl, n2⟩
    (repeat' (first | refine Wl.moveE (by conv => { lhs; whnf }) ?_ | refine Wl.assignE (by conv => { lhs; whnf }) ?_ | refine Wl.nil ?_ | refine Qseq.normal ?_ | refine Wc.seq ?_ | refine Wc.region ?_ | refine Wc.skip ?_ | refine Wc.ret ?_ | refine Qseq.ret ?_ | refine Qblk.normal ?_ | refine Qblk.ret ?_ | refine Qloop.ret ?_ | refine Wc.condT rfl ?_ | refine Wc.condF rfl ?_ | refine Wl.add rfl rfl (by omega) (by omega) ?_ | refine Wl.seql rfl rfl (fun _ => ?_) (fun _ => ?_)))
    · exact Qfn.ret1 rfl rfl ⟨_, rfl, ⟨_, rfl, .inr ⟨i, rfl, by omega, by assumption⟩⟩, New.trans n1 n2⟩
    · refine Qloop.normal (i + 1) ⟨rfl, rfl, rfl, trivial⟩ ⟨by omega, fun j hj => ?_, New.trans n1 n2⟩ (by omega)
      rcases Nat.lt_succ_iff_lt_or_eq.1 hj with h | rfl
      · exact hall j h
      · assumption
  · exact Qfn.ret1 rfl rfl ⟨_, rfl, ⟨_, rfl, .inl ⟨rfl, fun j hj => hall j (by omega)⟩⟩, n1⟩
def valV (o : Option (List UInt8)) : Value := match o with | some v => .tuple #[vs v, .bool true] | none => .tuple #[vs [], .bool false]
theorem val_take {l : List Pr} {nm : Nm} {i : Nat} (h : ∀ p ∈ l.take i, p.1 ≠ nm) : val l nm = val (l.drop i) nm := by
  unfold val
  conv => lhs; rw [← List.take_append_drop i l]
  rw [List.find?_append, List.find?_eq_none.2 (fun x hx => by simpa using h x hx), Option.none_or]
theorem value_spec {Pb : Nat → Prop} {w : World} {up : Int} {nm s : List UInt8} {pv : Value} {l : List Pr} (h : RdS rPr 2 Pb w pv l) :
    Calls Tryd.prog 24 #[.agg #[vi up, vs nm, pv], vs s] w (Ret fun r w' => r = valV (val l s) ∧ New w w') := by
  obtain ⟨a, cap, rfl, hc1, hc2⟩ := h.form
  simp only [maxLen] at hc2
  refine calls_of_Wc Tryd.func24 rfl Tryd.ntmps24 rfl ?_
  (repeat' (first | refine Wc.seq ?_ | refine Wc.region ?_))
  refine Wl.box rfl fun w1 b1 n1 s1 => ?_
  replace b1 : Bk w1 w.heap.size 37 [vi up, vs nm, .slice a l.length cap] := b1
  (repeat' (first | refine Wl.assignE (by conv => { lhs; whnf }) ?_ | refine Wl.nil ?_ | refine Qseq.normal ?_ | refine Wc.seq ?_ | refine Wc.region ?_ | refine Wc.block ?_))
  refine Wc.loop (σ := Nat) (fun i => [(1, vs s), (2, ptrV w.heap.size), (6, vi i)]) (fun i w' => i ≤ l.length ∧ (∀ p ∈ l.take i, p.1 ≠ s) ∧ New w1 w') (fun i => l.length - i) 0 ⟨rfl, rfl, rfl, trivial⟩ ⟨Nat.zero_le _, by simp, Chg.refl _ _⟩ ?_
  rintro i G w2 ⟨hi, hall, n2⟩
  have b2 := b1.chg n2 id
  have n02 := New.trans n1 n2
  have h2 := h.keep (stable_flat pC) n02.keep
  simp only [upds]
  (repeat' (first | refine Wl.moveE (by conv => { lhs; whnf }) ?_ | refine Wc.seq ?_ | refine Wc.region ?_ | refine Wl.fieldAddr rfl rfl ?_))
  refine Wl.load1 rfl (b2.cell (o := 2) rfl) ?_
  (repeat' (first | refine Wl.assignE (by conv => { lhs; whnf }) ?_ | refine Wl.nil ?_ | refine Wl.lenS rfl ?_ | refine Qseq.normal ?_ | refine Wc.seq ?_ | refine Wc.region ?_ | refine Wc.block ?_ | refine Wc.skip ?_ | refine Wc.exit ?_ | refine Wc.ret ?_ | refine Qseq.exit ?_ | refine Qblk.hit ?_ | refine Qloop.exit ?_ | refine Wc.condT rfl ?_ | refine Wc.condF rfl ?_ | refine Wl.fieldAddr rfl rfl ?_ | refine Wl.lss rfl rfl (fun _ => ?_) (fun _ => ?_)))
  · obtain ⟨p, hp⟩ := get_lt l (k := i) (by omega)
    refine Wl.load1 rfl (b2.cell (o := 2) rfl) ?_
    (repeat' (refine Wl.moveE (by conv => { lhs; whnf }) ?_))
    refine Wl.idxAddr h2 rfl rfl (by omega) hp fun b o cs hl hR hat => ?_
    obtain rfl : cs = pC p := hR
    (repeat' (refine Wl.fieldAddr rfl rfl ?_))
    refine Wl.load1 rfl (hat.get 0 rfl) ?_
    (repeat' (first | refine Wl.moveE (by conv => { lhs; whnf }) ?_ | refine Wl.assignE (by conv => { lhs; whnf }) ?_ | refine Wl.nil ?_ | refine Qseq.normal ?_ | refine Wc.seq ?_ | refine Wc.region ?_ | refine Wc.skip ?_ | refine Qblk.normal ?_ | refine Wc.condT rfl ?_ | refine Wc.condF rfl ?_ | refine Wl.fieldAddr rfl rfl ?_ | refine Wl.add rfl rfl (by omega) (by omega) ?_ | refine Wl.seql rfl rfl (fun _ => ?_) (fun _ => ?_)))
    · refine Wl.load1 rfl (b2.cell (o := 2) rfl) ?_
      (repeat' (refine Wl.moveE (by conv => { lhs; whnf }) ?_))
      refine Wl.idxAddr h2 rfl rfl (by omega) hp fun b o cs hl hR hat => ?_
      obtain rfl : cs = pC p := hR
      (repeat' (refine Wl.fieldAddr rfl rfl ?_))
      refine Wl.load1 rfl (hat.get 1 rfl) ?_
      (repeat' (first | refine Wl.assignE (by conv => { lhs; whnf }) ?_ | refine Wl.nil ?_ | refine Qseq.normal ?_ | refine Wc.ret ?_ | refine Qseq.ret ?_ | refine Qblk.ret ?_ | refine Qloop.ret ?_))
      refine Qfn.ret2 rfl rfl rfl ⟨_, rfl, ?_, n02⟩
      have e : p.1 = s := by assumption
      rw [val_take hall, drop_cons hp]
      unfold val
      rw [List.find?_cons, decide_eq_true e]; rfl
    · refine Qloop.normal (i + 1) ⟨rfl, rfl, rfl, trivial⟩ ⟨by omega, fun q hq => ?_, n2⟩ (by omega)
      have e : p.1 ≠ s := by assumption
      rw [take_snoc hp] at hq
      rcases List.mem_append.1 hq with hq | hq
      · exact hall q hq
      · simp at hq; subst hq; exact e
  · have e : i = l.length := by omega
    subst e
    refine Qfn.ret2 rfl rfl rfl ⟨_, rfl, ?_, n02⟩
    rw [val_take hall, List.drop_length]; rfl
def fullP (p : Pc) (i : Nat) : List UInt8 := if p.target = [47] then pathS (nmsOf p.nodes i) else if pathS (nmsOf p.nodes i) = [47] then p.target else p.target ++ pathS (nmsOf p.nodes i)
def hasV (p : Pc) (prop : List UInt8) (i : Nat) : Bool := match p.nodes[i]? with | some x => (val x.props prop).isSome | none => false
def namesB (p : Pc) (path prop : List UInt8) : Bool := (decide (path = p.target) && p.drop.contains prop) || (List.range p.nodes.length).any fun i => decide (fullP p i = path) && hasV p prop i
set_option maxHeartbeats 1000000 in
set_option maxRecDepth 4000 in
theorem names_spec {Pb : Nat → Prop} {w : World} {nv dv : Value} {p : Pc} {path prop : List UInt8} (ht : treeOk p.nodes = true) (hn : RdS rNd 3 Pb w nv p.nodes) (hd : RdS (one vs) 1 Pb w dv p.drop) (hs : p.target.length ≤ 2000000) :
    Calls Tryd.prog 25 #[.agg #[vs p.target, nv, dv], vs path, vs prop] w (Ret fun r w' => r = .bool (namesB p path prop) ∧ New w w') := by
  obtain ⟨na, nc, rfl, hnc1, hnc2⟩ := hn.form
  obtain ⟨da, dc, rfl, hdc1, hdc2⟩ := hd.form
  simp only [maxLen] at hdc2
  have htl := treeOk_len ht
  have hnm : namesB p path prop = ((decide (path = p.target) && p.drop.contains prop) || (List.range p.nodes.length).any fun i => decide (fullP p i = path) && hasV p prop i) := rfl
  refine calls_of_Wc Tryd.func25 rfl Tryd.ntmps25 rfl ?_
  refine Wc.seq ?_
  refine Wc.region ?_
  refine Wl.box rfl fun w1 b1 n1 s1 => ?_
  replace b1 : Bk w1 w.heap.size 25 [vs p.target, .slice na p.nodes.length nc, .slice da p.drop.length dc] := b1
  refine Wl.assignE (v := .bool false) rfl ?_
  refine Wl.nil ?_
  refine Qseq.normal ?_
  refine Wc.cutR (fun F w2 => agrees F [(1, vs path), (2, vs prop), (3, ptrV w.heap.size)] ∧ New w1 w2 ∧ (decide (path = p.target) && p.drop.contains prop) = false) ?_ ?_
  · (repeat' (first | refine Wl.moveE (by conv => { lhs; whnf }) ?_ | refine Wc.seq ?_ | refine Wc.region ?_ | refine Wl.fieldAddr rfl rfl ?_))
    refine Wl.load1 rfl (b1.cell (o := 0) rfl) ?_
    (repeat' (first | refine Wl.assignE (by conv => { lhs; whnf }) ?_ | refine Wl.nil ?_ | refine Qseq.normal ?_ | refine Wc.seq ?_ | refine Wc.region ?_ | refine Wc.block ?_ | refine Wc.skip ?_ | refine Wc.condT rfl ?_ | refine Wc.condF rfl ?_ | refine Wl.seql rfl rfl (fun _ => ?_) (fun _ => ?_)))
    · have hpt : path = p.target := by assumption
      refine Wc.loop (σ := Nat) (fun i => [(1, vs path), (2, vs prop), (3, ptrV w.heap.size), (7, vi i)]) (fun i w' => i ≤ p.drop.length ∧ (∀ x ∈ p.drop.take i, x ≠ prop) ∧ New w1 w') (fun i => p.drop.length - i) 0 ⟨rfl, rfl, rfl, rfl, trivial⟩ ⟨Nat.zero_le _, by simp, Chg.refl _ _⟩ ?_
      rintro i G w2 ⟨hi, hall, n2⟩
      have b2 := b1.chg n2 id
      simp only [upds]
      (repeat' (first | refine Wl.moveE (by conv => { lhs; whnf }) ?_ | refine Wc.seq ?_ | refine Wc.region ?_ | refine Wl.fieldAddr rfl rfl ?_))
      refine Wl.load1 rfl (b2.cell (o := 2) rfl) ?_
      (repeat' (first | refine Wl.nil ?_ | refine Wl.lenS rfl ?_ | refine Qseq.normal ?_ | refine Wc.seq ?_ | refine Wc.region ?_ | refine Wc.block ?_ | refine Wc.skip ?_ | refine Wc.exit ?_ | refine Qseq.exit ?_ | refine Qblk.hit ?_ | refine Qloop.exit ?_ | refine Wc.condT rfl ?_ | refine Wc.condF rfl ?_ | refine Wl.fieldAddr rfl rfl ?_ | refine Wl.lss rfl rfl (fun _ => ?_) (fun _ => ?_)))
      · obtain ⟨x, hx⟩ := get_lt p.drop (k := i) (by omega)
        refine Wl.load1 rfl (b2.cell (o := 2) rfl) ?_
        (repeat' (refine Wl.moveE (by conv => { lhs; whnf }) ?_))
        refine Wl.idxAddrV (hd.keep (stable_one _) (New.trans n1 n2).keep) rfl rfl (by omega) hx fun b o hc => ?_
        refine Wl.load1 rfl hc ?_
        (repeat' (first | refine Wl.moveE (by conv => { lhs; whnf }) ?_ | refine Wl.assignE (by conv => { lhs; whnf }) ?_ | refine Wl.nil ?_ | refine Qseq.normal ?_ | refine Wc.seq ?_ | refine Wc.region ?_ | refine Wc.skip ?_ | refine Wc.ret ?_ | refine Qseq.ret ?_ | refine Qblk.normal ?_ | refine Qblk.ret ?_ | refine Qloop.ret ?_ | refine Wc.condT rfl ?_ | refine Wc.condF rfl ?_ | refine Qm.ret ?_ | refine Wl.add rfl rfl (by omega) (by omega) ?_ | refine Wl.seql rfl rfl (fun _ => ?_) (fun _ => ?_)))
        · have e : x = prop := by assumption
          refine Qfn.ret1 rfl rfl ⟨_, rfl, ?_, New.trans n1 n2⟩
          rw [hnm, decide_eq_true hpt, List.contains_iff_mem.2 (e ▸ List.mem_of_getElem? hx)]; rfl
        · have e : x ≠ prop := by assumption
          refine Qloop.normal (i + 1) ⟨rfl, rfl, rfl, rfl, trivial⟩ ⟨by omega, fun y hy => ?_, n2⟩ (by omega)
          rw [take_snoc hx] at hy
          rcases List.mem_append.1 hy with hy | hy
          · exact hall y hy
          · simp at hy; subst hy; exact e
      · have e : i = p.drop.length := by omega
        subst e
        rw [List.take_length] at hall
        refine Qm.normal ⟨⟨rfl, rfl, rfl, trivial⟩, n2, ?_⟩
        have : p.drop.contains prop = false := by
          rw [Bool.eq_false_iff]; intro hc; exact hall prop (List.contains_iff_mem.1 hc) rfl
        rw [this, Bool.and_false]
    · have hpt : path ≠ p.target := by assumption
      refine Qm.normal ⟨⟨rfl, rfl, rfl, trivial⟩, Chg.refl _ _, ?_⟩
      rw [decide_eq_false hpt, Bool.false_and]
  · rintro F2 w2 ⟨hag, n2, hfirst⟩
    rw [← upds_of_agrees hag]
    simp only [upds]
    rw [hfirst, Bool.false_or] at hnm
    (repeat' (first | refine Wl.assignE (by conv => { lhs; whnf }) ?_ | refine Wl.nil ?_ | refine Qseq.normal ?_ | refine Wc.seq ?_ | refine Wc.region ?_ | refine Wc.block ?_))
    refine Wc.loop (σ := Nat) (fun i => [(1, vs path), (2, vs prop), (3, ptrV w.heap.size), (8, vi i)]) (fun i w' => i ≤ p.nodes.length ∧ (∀ j, j < i → (decide (fullP p j = path) && hasV p prop j) = false) ∧ New w1 w') (fun i => p.nodes.length - i) 0 ⟨rfl, rfl, rfl, rfl, trivial⟩ ⟨Nat.zero_le _, fun j hj => by omega, n2⟩ ?_
    rintro i G w3 ⟨hi, hall, n3⟩
    have b3 := b1.chg n3 id
    simp only [upds]
    (repeat' (first | refine Wl.moveE (by conv => { lhs; whnf }) ?_ | refine Wc.seq ?_ | refine Wc.region ?_ | refine Wl.fieldAddr rfl rfl ?_))
    refine Wl.load1 rfl (b3.cell (o := 1) rfl) ?_
    (repeat' (first | refine Wl.assignE (by conv => { lhs; whnf }) ?_ | refine Wl.nil ?_ | refine Wl.lenS rfl ?_ | refine Qseq.normal ?_ | refine Wc.seq ?_ | refine Wc.region ?_ | refine Wc.block ?_ | refine Wc.skip ?_ | refine Wc.exit ?_ | refine Wc.ret ?_ | refine Qseq.exit ?_ | refine Qblk.hit ?_ | refine Qloop.exit ?_ | refine Wc.condT rfl ?_ | refine Wc.condF rfl ?_ | refine Wl.fieldAddr rfl rfl ?_ | refine Wl.lss rfl rfl (fun _ => ?_) (fun _ => ?_)))
    · obtain ⟨x, hx⟩ := get_lt p.nodes (k := i) (by omega)
      have hpl := pathOf_len ht (i := i) (by omega)
      refine Wl.load1 rfl (b3.cell (o := 1) rfl) ?_
      (repeat' (refine Wl.moveE (by conv => { lhs; whnf }) ?_))
      refine Wl.call (Path_spec ht i (by omega) w3 (hn.keep stableNd (New.trans n1 n3).keep)) rfl ?_
      rintro _ w4 ⟨rfl, n4⟩
      replace n4 := New.trans n3 n4
      have b4 := b1.chg n4 id
      (repeat' (first | refine Wl.assignE (by conv => { lhs; whnf }) ?_ | refine Wl.nil ?_ | refine Qseq.normal ?_ | refine Wc.seq ?_ | refine Wc.region ?_ | refine Wl.fieldAddr rfl rfl ?_))
      refine Wl.load1 rfl (b4.cell (o := 0) rfl) ?_
      (repeat' (refine Wl.moveE (by conv => { lhs; whnf }) ?_))
      refine Wl.sadd rfl rfl (by omega) ?_
      refine Wl.assignE rfl ?_
      refine Wl.nil ?_
      refine Qseq.normal ?_
      refine Wc.cutR (fun F w5 => agrees F [(1, vs path), (2, vs prop), (3, ptrV w.heap.size), (8, vi i), (10, vs (fullP p i))] ∧ w5 = w4) ?_ ?_
      · (repeat' (first | refine Wc.seq ?_ | refine Wc.region ?_ | refine Wl.fieldAddr rfl rfl ?_))
        refine Wl.load1 rfl (b4.cell (o := 0) rfl) ?_
        have hfp : fullP p i = if p.target = [47] then pathS (nmsOf p.nodes i) else if pathS (nmsOf p.nodes i) = [47] then p.target else p.target ++ pathS (nmsOf p.nodes i) := rfl
        (repeat' (first | refine Wl.moveE (by conv => { lhs; whnf }) ?_ | refine Wl.assignE (by conv => { lhs; whnf }) ?_ | refine Wl.nil ?_ | refine Qseq.normal ?_ | refine Wc.seq ?_ | refine Wc.region ?_ | refine Wc.skip ?_ | refine Wc.condT rfl ?_ | refine Wc.condF rfl ?_ | refine Wl.fieldAddr rfl rfl ?_ | refine Wl.seql rfl rfl (fun _ => ?_) (fun _ => ?_)))
        · rw [if_pos (by assumption)] at hfp
          exact Qm.normal ⟨⟨rfl, rfl, rfl, rfl, by rw [hfp]; rfl, trivial⟩, rfl⟩
        · rw [if_neg (by assumption), if_pos (by assumption)] at hfp
          refine Wl.load1 rfl (b4.cell (o := 0) rfl) ?_
          (repeat' (first | refine Wl.assignE (by conv => { lhs; whnf }) ?_ | refine Wl.nil ?_))
          exact Qm.normal ⟨⟨rfl, rfl, rfl, rfl, by rw [hfp]; rfl, trivial⟩, rfl⟩
        · rw [if_neg (by assumption), if_neg (by assumption)] at hfp
          exact Qm.normal ⟨⟨rfl, rfl, rfl, rfl, by rw [hfp]; rfl, trivial⟩, rfl⟩
      · rintro F5 w5 ⟨hag5, rfl⟩
        rw [← upds_of_agrees hag5]
        simp only [upds]
        generalize hfp : fullP p i = fp
        (repeat' (first | refine Wc.seq ?_ | refine Wc.region ?_ | refine Wl.fieldAddr rfl rfl ?_))
        refine Wl.load1 rfl (b4.cell (o := 1) rfl) ?_
        (repeat' (refine Wl.moveE (by conv => { lhs; whnf }) ?_))
        refine Wl.idxAddr (hn.keep stableNd (New.trans n1 n4).keep) rfl rfl (by omega) hx fun b o cs hl hR hat => ?_
        obtain ⟨xpv, rfl, hxpr⟩ := hR
        refine Wl.loadAt hat rfl rfl ?_
        (repeat' (refine Wl.moveE (by conv => { lhs; whnf }) ?_))
        refine Wl.call (value_spec hxpr) rfl ?_
        rintro _ w6 ⟨rfl, n6⟩
        replace n6 := New.trans n4 n6
        have hv : hasV p prop i = (val x.props prop).isSome := by unfold hasV; rw [hx]
        cases hval : val x.props prop with
        | none =>
          rw [hval] at hv
          (repeat' (first | refine Wl.moveE (by conv => { lhs; whnf }) ?_ | refine Wl.assignE (by conv => { lhs; whnf }) ?_ | refine Wl.nil ?_ | refine Wl.extract rfl rfl ?_ | refine Wl.guardY rfl rfl ?_ | refine Wl.guardN rfl rfl ?_ | refine Wl.pickTE rfl (by conv => { lhs; whnf }) ?_ | refine Wl.pickFE rfl (by conv => { lhs; whnf }) ?_ | refine Qseq.normal ?_ | refine Wc.seq ?_ | refine Wc.region ?_ | refine Wc.skip ?_ | refine Qblk.normal ?_ | refine Wc.condF rfl ?_ | refine Wl.add rfl rfl (by omega) (by omega) ?_ | refine Wl.seql rfl rfl (fun _ => ?_) (fun _ => ?_)))
          all_goals
            refine Qloop.normal (i + 1) ⟨rfl, rfl, rfl, rfl, trivial⟩ ⟨by omega, fun j hj => ?_, n6⟩ (by omega)
            rcases Nat.lt_succ_iff_lt_or_eq.1 hj with h | rfl
            · exact hall j h
            · rw [hv]; simp
        | some u =>
          rw [hval] at hv
          (repeat' (first | refine Wl.moveE (by conv => { lhs; whnf }) ?_ | refine Wl.assignE (by conv => { lhs; whnf }) ?_ | refine Wl.nil ?_ | refine Wl.extract rfl rfl ?_ | refine Wl.guardY rfl rfl ?_ | refine Wl.guardN rfl rfl ?_ | refine Wl.pickTE rfl (by conv => { lhs; whnf }) ?_ | refine Wl.pickFE rfl (by conv => { lhs; whnf }) ?_ | refine Qseq.normal ?_ | refine Wc.seq ?_ | refine Wc.region ?_ | refine Wc.skip ?_ | refine Wc.ret ?_ | refine Qseq.ret ?_ | refine Qblk.normal ?_ | refine Qblk.ret ?_ | refine Qloop.ret ?_ | refine Wc.condT rfl ?_ | refine Wc.condF rfl ?_ | refine Wl.add rfl rfl (by omega) (by omega) ?_ | refine Wl.seql rfl rfl (fun _ => ?_) (fun _ => ?_)))
          · refine Qfn.ret1 rfl rfl ⟨_, rfl, ?_, New.trans n1 n6⟩
            show Value.bool true = Value.bool _
            rw [hnm, List.any_eq_true.2 ⟨i, List.mem_range.2 (List.getElem?_eq_some_iff.1 hx).1, by rw [hv, hfp, decide_eq_true (by assumption)]; rfl⟩]
          · refine Qloop.normal (i + 1) ⟨rfl, rfl, rfl, rfl, trivial⟩ ⟨by omega, fun j hj => ?_, n6⟩ (by omega)
            rcases Nat.lt_succ_iff_lt_or_eq.1 hj with h | rfl
            · exact hall j h
            · rw [hfp, decide_eq_false (by assumption), Bool.false_and]
    · have e : i = p.nodes.length := by omega
      subst e
      refine Qfn.ret1 rfl rfl ⟨_, rfl, ?_, New.trans n1 n3⟩
      show Value.bool false = Value.bool _
      rw [hnm, List.any_eq_false.2 fun j hj => by rw [hall j (List.mem_range.1 hj)]; simp]
end Go.Proofs.YtjpebmgllfiloaaDoor

namespace Go.Proofs.YtjpebmgllfiloaaDoor
open Go Wk

theorem join_split : ∀ l : List UInt8, (splitR 47 l).flatMap (fun n => 47 :: n) = 47 :: l
  | [] => rfl
  | b :: l => by
    have ih := join_split l
    rw [splitR]
    split
    · rename_i hb
      subst hb
      rw [List.flatMap_cons, ih]; rfl
    · split
      · rename_i h t e
        rw [e, List.flatMap_cons] at ih
        rw [List.flatMap_cons]
        simp only [List.cons_append, List.cons.injEq, true_and] at ih ⊢
        exact ih
      · rename_i e
        exact absurd e (splitR_ne 47 l)
theorem pathN_S {s : List UInt8} {nms : List Nm} (h : pathN s = some nms) : s = pathS nms := by
  unfold pathN at h
  split at h
  · rename_i hp
    have hs : s = 47 :: Lib.trimPrefix s [47] := by
      unfold Lib.trimPrefix
      rw [if_pos hp]
      unfold Lib.hasPrefix at hp
      have := List.isPrefixOf_iff_prefix.1 hp
      obtain ⟨r, rfl⟩ := this
      simp
    split at h
    · rename_i he
      cases h
      rw [hs, he]; rfl
    · rename_i he
      cases h
      unfold pathS
      rw [if_neg (splitR_ne 47 _), join_split]; exact hs
  · cases h
theorem nms_inj {t : List Nd} (ht : treeOk t = true) {j k : Nat} (hj : j < t.length) (hk : k < t.length) (h : pathS (nmsOf t j) = pathS (nmsOf t k)) : j = k := by
  have h2 := pathS_inj (fun n hn => (nmsOf_good ht j n hn).1) (fun n hn => (nmsOf_good ht k n hn).1) h
  obtain ⟨τ, rfl, hτ⟩ := treeOk_parse ht
  rw [flT_length] at hj hk
  obtain ⟨σ, h3⟩ := atP_nms hτ j hj
  obtain ⟨ρ, h4⟩ := atP_nms hτ k hk
  rw [h2, h4] at h3
  simp only [Option.some.injEq, Prod.mk.injEq] at h3
  exact h3.2.symm
theorem gp_of_nms {τ : T} (hτ : okTree τ = true) {i : Nat} {x : Nd} (hx : (flT τ (-1) 0)[i]? = some x) : gp (nmsOf (flT τ (-1) 0) i) τ = some x.props := by
  have hi := (List.getElem?_eq_some_iff.1 hx).1
  rw [flT_length] at hi
  obtain ⟨σ, h⟩ := atP_nms hτ i hi
  obtain ⟨_, _, up, h2⟩ := nms_atP hτ h
  rw [hx] at h2
  cases h2
  exact gp_some h
theorem nms_of_gp {τ : T} (hτ : okTree τ = true) {ν : List Nm} {ps : List Pr} (h : gp ν τ = some ps) : ∃ k x, (flT τ (-1) 0)[k]? = some x ∧ nmsOf (flT τ (-1) 0) k = ν ∧ x.props = ps := by
  rw [← gp_at (b := 0)] at h
  cases ha : atP ν τ 0 with
  | none => rw [ha] at h; cases h
  | some q =>
    rw [ha] at h
    obtain ⟨σ, k⟩ := q
    cases h
    obtain ⟨h1, _, up, h2⟩ := nms_atP hτ ha
    exact ⟨k, _, h2, h1, rfl⟩
theorem gp_drop {D : List Nm} {σ : T} {μ : List Nm} : gp μ (dropT D σ) = if μ = [] then some (dropPr D σ.props) else gp μ σ := by
  cases σ
  cases μ with
  | nil => rfl
  | cons _ _ => rfl
theorem updP_id : ∀ (nms : List Nm) (τ : T), updP (fun x => x) nms τ = τ
  | [], τ => rfl
  | nm :: r, .mk n p ks => by
    simp only [updP]
    congr 1
    induction ks with
    | nil => rfl
    | cons k ks ih =>
      rw [updK]
      split
      · rw [updP_id r k]
      · rw [ih]
/-- A laid tree, taken apart. -/
structure Laid (t u : List Nd) (p : Pc) (τ π σ : T) (nms : List Nm) (i0 : Nat) : Prop where
  t : t = flT τ (-1) 0
  ot : okTree τ = true
  n : p.nodes = flT π (-1) 0
  on : okTree π = true
  tg : p.target = pathS nms
  at' : atP nms τ 0 = some (σ, i0)
  u : u = flT (layO p.drop nms π τ) (-1) 0
  ou : okTree (layO p.drop nms π τ) = true
  pk : pieceOk p = true
theorem laid_of {t u : List Nd} {p : Pc} (h : layM t p = (u, 0)) : ∃ τ π σ nms i0, Laid t u p τ π σ nms i0 := by
  have h0 := h
  unfold layM at h0
  split at h0
  · rename_i ht
    split at h0
    · rename_i hp
      clear h0
      obtain ⟨τ, rfl, hτ⟩ := treeOk_parse ht
      obtain ⟨π, hπ, hπo⟩ := treeOk_parse (pieceOk_nodes hp)
      rw [layM_T hp hπ hτ] at h
      cases hn : pathN p.target with
      | none => rw [hn] at h; simp at h
      | some nms =>
        rw [hn] at h
        simp only [Option.bind_some] at h
        cases ha : atP nms τ 0 with
        | none => rw [ha] at h; simp at h
        | some q =>
          obtain ⟨σ, i0⟩ := q
          rw [ha] at h
          simp only [Option.map_some] at h
          split at h
          · rename_i ho
            simp only [Prod.mk.injEq, and_true] at h
            exact ⟨τ, π, σ, nms, i0, rfl, hτ, hπ, hπo, pathN_S hn, ha, h.symm, ho, hp⟩
          · simp at h
    · simp at h0
  · simp at h0
section
variable {t u : List Nd} {p : Pc} {τ π σ : T} {nms : List Nm} {i0 : Nat}
theorem lay_gname {D : List Nm} (t : T) : (layT π (dropT D t)).name = t.name := by rw [layT_name]; cases t; rfl
theorem Laid.good (h : Laid t u p τ π σ nms i0) : ∀ n ∈ nms, GoodN n := by
  have h1 := (nms_atP h.ot h.at').1
  intro n hn
  rw [← h1] at hn
  exact (nmsOf_good (by rw [treeOk_flT]; exact h.ot) i0 n hn).1
theorem okT_of (h : okTree τ = true) : okT 1 τ = true := by unfold okTree at h; simp only [Bool.and_eq_true] at h; exact h.2.2
theorem Laid.full (h : Laid t u p τ π σ nms i0) {j : Nat} : fullP p j = pathS (nms ++ nmsOf p.nodes j) := by
  have hg := h.good
  have hm : ∀ n ∈ nmsOf p.nodes j, GoodN n := fun n hn => (nmsOf_good (pieceOk_nodes h.pk) j n hn).1
  unfold fullP
  rw [h.tg]
  split
  · rename_i e
    have : nms = [] := pathS_inj hg (by simp) (by rw [e]; rfl)
    rw [this, List.nil_append]
  · rename_i e
    split
    · rename_i e2
      have : nmsOf p.nodes j = [] := pathS_inj hm (by simp) (by rw [e2]; rfl)
      rw [this, List.append_nil]
    · rename_i e2
      have h1 : nms ≠ [] := fun e' => e (by rw [e']; rfl)
      have h2 : nmsOf p.nodes j ≠ [] := fun e' => e2 (by rw [e']; rfl)
      unfold pathS
      rw [if_neg h1, if_neg h2, if_neg (by simp [h1]), List.flatMap_append]
theorem Laid.names (h : Laid t u p τ π σ nms i0) {ν : List Nm} (hν : ∀ n ∈ ν, GoodN n) {q : Nm} : namesB p (pathS ν) q = true ↔ (ν = nms ∧ q ∈ p.drop) ∨ ∃ μ qs, ν = nms ++ μ ∧ gp μ π = some qs ∧ (val qs q).isSome = true := by
  have hg := h.good
  unfold namesB
  rw [Bool.or_eq_true, Bool.and_eq_true, decide_eq_true_eq, List.contains_iff_mem, List.any_eq_true]
  constructor
  · rintro (⟨h1, h2⟩ | ⟨j, hj, h1⟩)
    · rw [h.tg] at h1
      exact .inl ⟨pathS_inj hν hg h1, h2⟩
    · rw [Bool.and_eq_true, decide_eq_true_eq, h.full] at h1
      have hm : ∀ n ∈ nms ++ nmsOf p.nodes j, GoodN n := fun n hn => by
        rcases List.mem_append.1 hn with hn | hn
        · exact hg n hn
        · exact (nmsOf_good (pieceOk_nodes h.pk) j n hn).1
      have h2 := pathS_inj hm hν h1.1
      obtain ⟨x, hx⟩ := get_lt p.nodes (List.mem_range.1 hj)
      have h3 := h1.2
      unfold hasV at h3
      rw [hx] at h3
      rw [h.n] at hx h2
      exact .inr ⟨_, _, h2.symm, gp_of_nms h.on hx, h3⟩
  · rintro (⟨h1, h2⟩ | ⟨μ, qs, h1, h2, h3⟩)
    · exact .inl ⟨by rw [h1, h.tg], h2⟩
    · obtain ⟨k, x, hx, hk, hps⟩ := nms_of_gp h.on h2
      rw [← h.n] at hx hk
      refine .inr ⟨k, List.mem_range.2 (List.getElem?_eq_some_iff.1 hx).1, ?_⟩
      rw [h.full, hk, ← h1]
      unfold hasV
      rw [hx]
      dsimp only
      rw [hps, h3, decide_eq_true rfl]; rfl
theorem pieceOk_drop (h : pieceOk p = true) {x : Nd} (hx : p.nodes[0]? = some x) : ∀ d ∈ p.drop, val x.props d = none := by
  unfold pieceOk at h
  simp only [Bool.and_eq_true] at h
  have h2 := h.2.2
  cases hn : p.nodes with
  | nil => rw [hn] at hx; cases hx
  | cons y r =>
    rw [hn] at h2 hx
    simp at hx
    subst hx
    dsimp only at h2
    have key : ∀ (l : List Nm) (seen : List Nm), dropGo y.props seen l = true → ∀ d ∈ l, val y.props d = none := by
      intro l
      induction l with
      | nil => intro seen _ d hd; simp at hd
      | cons s r ih =>
        intro seen h d hd
        simp only [dropGo, Bool.and_eq_true, Bool.not_eq_true'] at h
        rcases List.mem_cons.1 hd with rfl | hd
        · refine val_none.2 fun q hq e => ?_
          have := List.any_eq_false.1 h.2.2.1 q hq
          simp [e] at this
        · exact ih _ h.2.2.2 d hd
    exact key p.drop [] h2
/-- The props at a path of the laid tree. -/
theorem Laid.gp (h : Laid t u p τ π σ nms i0) {ν : List Nm} {ps : List Pr} (hν : Go.Proofs.YtjpebmgllfiloaaDoor.gp ν τ = some ps) (hgν : ∀ n ∈ ν, GoodN n) : ∃ ps', Go.Proofs.YtjpebmgllfiloaaDoor.gp ν (layO p.drop nms π τ) = some ps' ∧ ∀ q, namesB p (pathS ν) q = false → val ps' q = val ps q := by
  have hup := gp_upd (g := fun σ => layT π (dropT p.drop σ)) lay_gname (ν := ν) h.at'
  unfold layO
  by_cases hpre : ∃ μ, ν = nms ++ μ
  · obtain ⟨μ, rfl⟩ := hpre
    rw [hup.1 μ rfl, gp_lay (okT_of h.on), gp_drop]
    have hs : Go.Proofs.YtjpebmgllfiloaaDoor.gp (nms ++ μ) τ = Go.Proofs.YtjpebmgllfiloaaDoor.gp μ σ := by
      have := (gp_upd (g := fun x => x) (fun _ => rfl) (ν := nms ++ μ) h.at').1 μ rfl
      rw [updP_id] at this
      exact this
    rw [hs] at hν
    have hb : ∃ b, (if μ = [] then some (dropPr p.drop σ.props) else Go.Proofs.YtjpebmgllfiloaaDoor.gp μ σ) = some b ∧ ∀ q, (μ = [] → q ∉ p.drop) → val b q = val ps q := by
      split
      · rename_i e
        subst e
        have : σ.props = ps := Option.some.inj hν
        subst this
        refine ⟨_, rfl, fun q hq => ?_⟩
        rw [val_drop, if_neg (fun hc => hq rfl (List.contains_iff_mem.1 hc))]
      · exact ⟨ps, hν, fun _ _ => rfl⟩
    obtain ⟨b, hb1, hb2⟩ := hb
    rw [hb1]
    have hnm : ∀ q, namesB p (pathS (nms ++ μ)) q = false → (μ = [] → q ∉ p.drop) := fun q hq e hd => by
      subst e
      rw [(h.names (by simpa using hgν)).2 (.inl ⟨by simp, hd⟩)] at hq
      cases hq
    cases hπ : Go.Proofs.YtjpebmgllfiloaaDoor.gp μ π with
    | none => exact ⟨b, rfl, fun q hq => hb2 q (hnm q hq)⟩
    | some qs =>
      refine ⟨_, rfl, fun q hq => ?_⟩
      obtain ⟨k, x, hx, _, hps⟩ := nms_of_gp h.on hπ
      have hnd := propsOk_nodup (treeOk_nd (by rw [treeOk_flT]; exact h.on) hx).pr
      rw [hps] at hnd
      rw [val_foldl qs _ q hnd]
      cases hv : val qs q with
      | none => exact hb2 q (hnm q hq)
      | some v =>
        rw [(h.names hgν).2 (.inr ⟨μ, qs, rfl, hπ, by rw [hv]; rfl⟩)] at hq
        cases hq
  · rw [hup.2 fun μ e => hpre ⟨μ, e⟩]
    exact ⟨ps, hν, fun _ _ => rfl⟩
end
/-- What the law asks of a laid tree. -/
structure LayF (t u : List Nd) (p : Pc) : Prop where
  tt : treeOk t = true
  tu : treeOk u = true
  tn : treeOk p.nodes = true
  len : t.length ≤ u.length
  node : ∀ i x, t[i]? = some x → ∃ k y, u[k]? = some y ∧ pathS (nmsOf u k) = pathS (nmsOf t i) ∧ ∀ q, namesB p (pathS (nmsOf t i)) q = false → val y.props q = val x.props q
  tgt : ∃ k y, u[k]? = some y ∧ pathS (nmsOf u k) = p.target ∧ (∀ d ∈ p.drop, val y.props d = none) ∧ ∀ x, p.nodes[0]? = some x → ∀ q ∈ x.props, val y.props q.1 = some q.2
theorem layF {t u : List Nd} {p : Pc} (h : layM t p = (u, 0)) : LayF t u p := by
  obtain ⟨τ, π, σ, nms, i0, L⟩ := laid_of h
  have ht : treeOk t = true := by rw [L.t, treeOk_flT]; exact L.ot
  have hu : treeOk u = true := by rw [L.u, treeOk_flT]; exact L.ou
  refine ⟨ht, hu, pieceOk_nodes L.pk, ?_, fun i x hx => ?_, ?_⟩
  · rw [L.t, L.u, flT_length, flT_length]
    unfold layO
    rw [updP_const L.at']
    have h1 := (szT_upd (σ' := layT π (dropT p.drop σ)) L.at').1
    have h2 := (layT_mono π (dropT p.drop σ)).1
    rw [szT_drop] at h2
    omega
  · have hg : ∀ n ∈ nmsOf t i, GoodN n := fun n hn => (nmsOf_good ht i n hn).1
    have hx' := hx
    rw [L.t] at hx' hg
    obtain ⟨ps', h1, h2⟩ := L.gp (gp_of_nms L.ot hx') hg
    obtain ⟨k, y, h3, h4, h5⟩ := nms_of_gp L.ou h1
    rw [← L.u] at h3 h4
    rw [← L.t] at h4 h2
    exact ⟨k, y, h3, by rw [h4], fun q hq => by rw [h5, h2 q hq]⟩
  · have hup := (gp_upd (g := fun σ => layT π (dropT p.drop σ)) lay_gname (ν := nms) L.at').1 [] (by simp)
    have hps : gp [] (layT π (dropT p.drop σ)) = some (π.props.foldl setPr (dropPr p.drop σ.props)) := by
      cases π; cases σ; rfl
    rw [hps] at hup
    obtain ⟨k, y, h3, h4, h5⟩ := nms_of_gp L.ou hup
    rw [← L.u] at h3 h4
    have hr := get_flT (l := flT π (-1) 0) (rest := []) (b := 0) (τ := π) (up := -1) (by simp)
    rw [← L.n] at hr
    have hnd := propsOk_nodup (treeOk_nd (pieceOk_nodes L.pk) hr).pr
    dsimp only at hnd
    refine ⟨k, y, h3, by rw [h4, L.tg], fun d hd => ?_, fun x hx q hq => ?_⟩
    · have := pieceOk_drop L.pk hr d hd
      dsimp only at this
      rw [h5, val_foldl _ _ _ hnd, this, val_drop, if_pos (List.contains_iff_mem.2 hd)]
    · rw [hr] at hx
      cases hx
      rw [h5, val_foldl _ _ _ hnd, val_mem hnd hq]
theorem layM_err {t : List Nd} {p : Pc} (h : (layM t p).2 ≠ 0) : (layM t p).1 = [] := by
  unfold layM at h ⊢
  by_cases h1 : treeOk t = true
  · rw [if_pos h1] at h ⊢
    by_cases h2 : pieceOk p = true
    · rw [if_pos h2] at h ⊢
      cases h3 : findM t p.target with
      | none => rfl
      | some i =>
        rw [h3] at h
        dsimp only at h ⊢
        generalize layG p.nodes p.nodes.length i 0 (dropG p.drop (knotsM t) i) (t.length : Int) = r at h ⊢
        obtain ⟨ok, G, c⟩ := r
        cases ok with
        | false => rfl
        | true =>
          dsimp only at h ⊢
          by_cases h5 : treeOk (flatG G G.length 0 (-1) []) = true
          · rw [if_pos h5] at h; exact absurd rfl h
          · rw [if_neg h5]
    · rw [if_neg h2]
  · rw [if_neg h1]
theorem layM_ok {t u : List Nd} {p : Pc} (h : layM t p = (u, 0)) : treeOk u = true := (layF h).tu
end Go.Proofs.YtjpebmgllfiloaaDoor

namespace Go.Proofs.YtjpebmgllfiloaaDoor
open Go Wk
open Go.RowKit (Below)
attribute [local irreducible] Go.Calls

theorem pathN_of {ν : List Nm} (h : ∀ n ∈ ν, GoodN n) : pathN (pathS ν) = some ν := by
  unfold pathN
  cases ν with
  | nil => rfl
  | cons n l =>
    have hn := h n (by simp)
    have e : pathS (n :: l) = 47 :: (n ++ l.flatMap fun n => 47 :: n) := by unfold pathS; rw [if_neg (by simp)]; rfl
    rw [e]
    have h1 : Lib.hasPrefix (47 :: (n ++ l.flatMap fun n => 47 :: n)) [47] = true := by simp [Lib.hasPrefix]
    have h2 : Lib.trimPrefix (47 :: (n ++ l.flatMap fun n => 47 :: n)) [47] = n ++ l.flatMap fun n => 47 :: n := by unfold Lib.trimPrefix; rw [h1]; rfl
    rw [if_pos h1, h2, if_neg (by simp [hn.1]), split_join l n hn.2 fun m hm => (h m (by simp [hm])).2]
theorem findM_path {t : List Nd} (ht : treeOk t = true) {s : List UInt8} : (∀ k, findM t s = some k → k < t.length ∧ pathS (nmsOf t k) = s) ∧ (∀ k, k < t.length → pathS (nmsOf t k) = s → findM t s = some k) := by
  obtain ⟨τ, rfl, hτ⟩ := treeOk_parse ht
  rw [findM_T]
  refine ⟨fun k h => ?_, fun k hk h => ?_⟩
  · cases hn : pathN s with
    | none => rw [hn] at h; cases h
    | some nms =>
      rw [hn, Option.bind_some] at h
      cases ha : atP nms τ 0 with
      | none => rw [ha] at h; cases h
      | some q =>
        obtain ⟨σ, i⟩ := q
        rw [ha] at h
        cases h
        obtain ⟨h1, h2, _⟩ := nms_atP hτ ha
        rw [flT_length, h1]
        exact ⟨h2, (pathN_S hn).symm⟩
  · subst h
    rw [flT_length] at hk
    obtain ⟨σ, ha⟩ := atP_nms hτ k hk
    rw [pathN_of fun n hn => (nmsOf_good ht k n hn).1, Option.bind_some, ha]; rfl
/-- What Lay of the references hands back. -/
def layRM (t : List Nd) (p : Pc) : List Nd × Int :=
  if treeOk t = true then
    (if pieceOk p = true then
      (match findM t p.target with
      | none => ([], 51)
      | some i => (match t[i]? with
        | none => ([], 51)
        | some x => (match rlay p.nodes p.nodes.length (t.set i { x with props := dropPr p.drop x.props }) i 0 with
          | (u, true) => if treeOk u = true then (u, 0) else ([], 40)
          | (_, false) => ([], 40))))
    else ([], 50))
  else ([], 40)
theorem TrR.nil {lo : Nat} {w : World} : TrR lo w (.slice none 0 0) [] [] := ⟨rfl, OwnS.nil, fun i x pv h => by simp at h⟩
theorem small_ok {t : List Nd} (h : treeOk t = true) : Small t := by
  refine ⟨treeOk_len h, fun x hx => ?_, fun x hx => ?_⟩
  · obtain ⟨i, hi⟩ := List.mem_iff_getElem?.1 hx
    have h1 := treeOk_nd h hi
    have h2 := (List.getElem?_eq_some_iff.1 hi).1
    by_cases h0 : i = 0
    · have := (h1.root h0).1; omega
    · have := (h1.kid h0).2.1; omega
  · obtain ⟨i, hi⟩ := List.mem_iff_getElem?.1 hx
    exact propsOk_len (treeOk_nd h hi).pr
theorem dropPr_snoc {D : List (List UInt8)} {l : List Pr} {i : Nat} {p : Pr} (h : l[i]? = some p) : dropPr D (l.take (i + 1)) = if D.contains p.1 = true then dropPr D (l.take i) else dropPr D (l.take i) ++ [p] := by
  unfold dropPr
  rw [take_snoc h, List.filter_append]
  cases hc : D.contains p.1
  · simp only [List.filter_cons, hc, Bool.not_false, if_true, List.filter_nil, Bool.false_eq_true, if_false]
  · simp only [List.filter_cons, hc, Bool.not_true, if_true, List.filter_nil, Bool.false_eq_true, if_false, List.append_nil]
theorem dropPr_len (D : List (List UInt8)) (l : List Pr) : (dropPr D l).length ≤ l.length := List.length_filter_le _ _
set_option maxHeartbeats 2000000 in
set_option maxRecDepth 4000 in
theorem LayR_spec {Pb : Nat → Prop} {w : World} {tv nv dv : Value} {t : List Nd} {p : Pc} (ht : RdS rNd 3 Pb w tv t) (hn : RdS rNd 3 Pb w nv p.nodes) (hd : RdS (one vs) 1 Pb w dv p.drop) :
    Calls Tryd.prog 11 #[tv, .agg #[vs p.target, nv, dv]] w (Ret fun r w' => ∃ v pvs, r = .tuple #[v, vi (layRM t p).2] ∧ New w w' ∧ TrR w.heap.size w' v (layRM t p).1 pvs) := by
  obtain ⟨ta, tc, rfl, htc1, htc2⟩ := ht.form
  obtain ⟨na, nc, rfl, _, _⟩ := hn.form
  obtain ⟨da, dc, rfl, hdc1, hdc2⟩ := hd.form
  simp only [maxLen] at hdc2
  refine calls_of_Wc Tryd.func11 rfl Tryd.ntmps11 rfl ?_
  (repeat' (first | refine Wc.seq ?_ | refine Wc.region ?_))
  refine Wl.box rfl fun w1 b1 n1 s1 => ?_
  replace b1 : Bk w1 w.heap.size 25 [vs p.target, .slice na p.nodes.length nc, .slice da p.drop.length dc] := b1
  (repeat' (first | refine Wl.moveE (by conv => { lhs; whnf }) ?_ | refine Wl.assignE (by conv => { lhs; whnf }) ?_ | refine Wl.nil ?_ | refine Qseq.normal ?_ | refine Wc.seq ?_ | refine Wc.region ?_))
  refine Wl.call (mayR_spec (ht.keep stableNd n1.keep)) rfl ?_
  rintro _ w2 ⟨rfl, n2⟩
  replace b1 := b1.chg n2 id
  replace n2 := New.trans n1 n2
  unfold layRM
  cases hok : treeOk t with
  | false =>
    rw [if_neg (by simp)]
    (repeat' (first | refine Wl.assignE (by conv => { lhs; whnf }) ?_ | refine Wl.nil ?_ | refine Wl.notB rfl ?_ | refine Qseq.normal ?_ | refine Wc.seq ?_ | refine Wc.region ?_ | refine Wc.ret ?_ | refine Qseq.ret ?_ | refine Wc.condT rfl ?_))
    exact Qfn.ret2 rfl rfl rfl ⟨_, rfl, _, [], rfl, n2, TrR.nil⟩
  | true =>
    rw [if_pos rfl]
    have htl := treeOk_len hok
    (repeat' (first | refine Wl.nil ?_ | refine Wl.notB rfl ?_ | refine Qseq.normal ?_ | refine Wc.seq ?_ | refine Wc.region ?_ | refine Wc.skip ?_ | refine Wc.condF rfl ?_))
    refine Wl.loadB b1 rfl rfl ?_
    refine Wl.call (CheckPR_spec (p := p) (hn.keep stableNd n2.keep) (hd.keep (stable_one _) n2.keep)) rfl ?_
    rintro _ w3 ⟨rfl, n3⟩
    replace b1 := b1.chg n3 id
    replace n3 := New.trans n2 n3
    unfold pieceE
    cases hpk : pieceOk p with
    | false =>
      rw [if_neg (by simp), if_neg (by simp)]
      (repeat' (first | refine Wl.assignE (by conv => { lhs; whnf }) ?_ | refine Wl.nil ?_ | refine Qseq.normal ?_ | refine Wc.seq ?_ | refine Wc.region ?_ | refine Wc.ret ?_ | refine Qseq.ret ?_ | refine Wc.condT rfl ?_ | (refine Wl.neq rfl rfl (fun _ => ?_) (fun _ => ?_) <;> (first | (exfalso; omega) | skip))))
      exact Qfn.ret2 rfl rfl rfl ⟨_, rfl, _, [], rfl, n3, TrR.nil⟩
    | true =>
      rw [if_pos rfl, if_pos rfl]
      have hpn := pieceOk_nodes hpk
      have hpp := treeOk_pos hpn
      have hpl := treeOk_len hpn
      (repeat' (first | refine Wl.assignE (by conv => { lhs; whnf }) ?_ | refine Wl.nil ?_ | refine Qseq.normal ?_ | refine Wc.seq ?_ | refine Wc.region ?_ | refine Wc.block ?_ | refine Wc.skip ?_ | refine Wc.condF rfl ?_ | (refine Wl.neq rfl rfl (fun _ => ?_) (fun _ => ?_) <;> (first | (exfalso; omega) | skip))))
      refine Wc.loop (σ := Nat × Int) (fun s => [(0, .slice ta t.length tc), (3, ptrV w.heap.size), (6, vi s.2), (7, vi s.1)])
        (fun s w' => s.1 ≤ t.length ∧ ((s.2 = -1 ∧ ∀ j, j < s.1 → pathS (nmsOf t j) ≠ p.target) ∨ ∃ j : Nat, s.2 = j ∧ j < s.1 ∧ pathS (nmsOf t j) = p.target) ∧ Bk w' w.heap.size 25 [vs p.target, .slice na p.nodes.length nc, .slice da p.drop.length dc] ∧ New w w') (fun s => t.length - s.1)
        (0, -1) ⟨rfl, rfl, rfl, rfl, trivial⟩ ⟨Nat.zero_le _, .inl ⟨rfl, fun j hj => by omega⟩, b1, n3⟩ ?_
      rintro ⟨i, z⟩ G w4 ⟨hi, hz, b4, n4⟩
      dsimp only at hi hz
      simp only [upds]
      (repeat' (first | refine Wl.moveE (by conv => { lhs; whnf }) ?_ | refine Wl.assignE (by conv => { lhs; whnf }) ?_ | refine Wl.nil ?_ | refine Wl.lenS rfl ?_ | refine Qseq.normal ?_ | refine Wc.seq ?_ | refine Wc.region ?_ | refine Wc.block ?_ | refine Wc.skip ?_ | refine Wc.exit ?_ | refine Wc.ret ?_ | refine Qseq.exit ?_ | refine Qseq.ret ?_ | refine Qblk.hit ?_ | refine Qloop.exit ?_ | refine Wc.condT rfl ?_ | refine Wc.condF rfl ?_ | refine Wl.lss rfl rfl (fun _ => ?_) (fun _ => ?_)))
      · refine Wc.regionT rfl (by kernel_rfl) (New w4) (Chg.drew _ _) ?_
        intro w5 n5
        (repeat' (refine Wt.quiet rfl (Wq.moveE (by conv => { lhs; whnf }) (Wq.nil ?_))))
        refine Wt.chain rfl (Wl.call (Path_spec hok i (by omega) w5 ((ht.keep stableNd n4.keep).keep stableNd n5.keep)) rfl ?_)
        rintro _ w6 ⟨rfl, n6⟩
        have n46 := New.trans n5 n6
        refine Wl.nil ⟨rfl, n46, ?_⟩
        (repeat' (refine Wt.quiet rfl (Wq.fieldAddr rfl rfl (Wq.nil ?_))))
        refine Wt.quiet rfl (Wq.load1 rfl (fun w' hw => (b4.chg hw id).cell (o := 0) rfl) (Wq.nil ?_))
        (repeat' (first | refine Wt.nil ?_ | refine Wt.quiet rfl (Wq.seql rfl rfl (fun _ => Wq.nil ?_) (fun _ => Wq.nil ?_))))
        · (repeat' (first | refine Wl.moveE (by conv => { lhs; whnf }) ?_ | refine Wl.assignE (by conv => { lhs; whnf }) ?_ | refine Wl.nil ?_ | refine Qseq.normal ?_ | refine Wc.region ?_ | refine Qblk.normal ?_ | refine Wc.condT rfl ?_ | refine Wl.add rfl rfl (by omega) (by omega) ?_))
          exact Qloop.normal (i + 1, (i : Int)) ⟨rfl, rfl, rfl, rfl, trivial⟩ ⟨by dsimp only; omega, .inr ⟨i, rfl, by dsimp only; omega, by assumption⟩, b4.chg n46 id, New.trans n4 n46⟩ (by dsimp only; omega)
        · (repeat' (first | refine Wl.moveE (by conv => { lhs; whnf }) ?_ | refine Wl.assignE (by conv => { lhs; whnf }) ?_ | refine Wl.nil ?_ | refine Qseq.normal ?_ | refine Wc.region ?_ | refine Wc.skip ?_ | refine Qblk.normal ?_ | refine Wc.condF rfl ?_ | refine Wl.add rfl rfl (by omega) (by omega) ?_))
          refine Qloop.normal (i + 1, z) ⟨rfl, rfl, rfl, rfl, trivial⟩ ⟨by dsimp only; omega, ?_, b4.chg n46 id, New.trans n4 n46⟩ (by dsimp only; omega)
          rcases hz with ⟨e, hz⟩ | ⟨j, e, hj, hz⟩
          · refine .inl ⟨e, fun j hj => ?_⟩
            rcases Nat.lt_succ_iff_lt_or_eq.1 hj with h | rfl
            · exact hz j h
            · assumption
          · exact .inr ⟨j, e, by dsimp only; omega, hz⟩
      · -- none
        have hfm : findM t p.target = none := by
          rcases hz with ⟨e, hz⟩ | ⟨j, e, hj, hz⟩
          · cases hf : findM t p.target with
            | none => rfl
            | some k => have := (findM_path hok).1 k hf; exact absurd this.2 (hz k (by omega))
          · omega
        rw [hfm]
        exact Qfn.ret2 rfl rfl rfl ⟨_, rfl, _, [], rfl, n4, TrR.nil⟩
      · obtain ⟨k, rfl, hk, hz⟩ : ∃ j : Nat, z = j ∧ j < t.length ∧ pathS (nmsOf t j) = p.target := by
          rcases hz with ⟨e, hz⟩ | ⟨j, e, hj, hz⟩
          · omega
          · exact ⟨j, e, by omega, hz⟩
        obtain ⟨x, hx⟩ := get_lt t hk
        rw [(findM_path hok).2 k hk hz]
        dsimp only
        rw [hx]
        dsimp only
        have hsm := small_ok hok
        have hxl := hsm.pr x (List.mem_of_getElem? hx)
        refine Wl.call (Twin_spec (ht.keep stableNd n4.keep) (by omega) (fun q hq => by have := hsm.pr q hq; omega)) rfl ?_
        rintro v1 w5 ⟨lab, pvs, to5, n5⟩
        have tr5 := to5.toR.low n4.size
        have b5 := b4.chg n5 id
        have n05 := New.trans n4 n5
        have hzl : (t.zip pvs).length = t.length := by simp [tr5.len]
        obtain ⟨g, gc, rfl, hgb, hgl, hob⟩ := to5.toR.arr.blk (by intro e; rw [e] at hzl; simp at hzl; omega)
        clear to5 hz
        (repeat' (first | refine Wl.assignE (by conv => { lhs; whnf }) ?_ | refine Wl.nil ?_ | refine Qseq.normal ?_ | refine Wc.seq ?_ | refine Wc.region ?_ | refine Wc.block ?_))
        refine Wc.loop (σ := Nat × Value) (fun s => [(3, ptrV w.heap.size), (6, vi k), (8, .slice (some ⟨g, 0, none⟩) (t.zip pvs).length gc), (9, s.2), (10, vi s.1)])
          (fun s w' => s.1 ≤ x.props.length ∧ OwnPr (fun b => w5.heap.size ≤ b) w' s.2 (dropPr p.drop (x.props.take s.1)) ∧ New w5 w') (fun s => x.props.length - s.1) (0, .slice none 0 0) ⟨rfl, rfl, rfl, rfl, rfl, trivial⟩ ⟨Nat.zero_le _, OwnS.nil, Chg.refl _ _⟩ ?_
        rintro ⟨i, lv⟩ G w6 ⟨hi, ol6, n6⟩
        dsimp only at hi ol6
        simp only [upds]
        have tr6 := tr5.new n6
        have b6 := b5.chg n6 id
        have n06 := New.trans n05 n6
        have hd6 := hd.keep (stable_one _) n06.keep
        have hdl6 : (dropPr p.drop (x.props.take i)).length ≤ i := by
          have := List.length_filter_le (fun y : Pr => !p.drop.contains y.1) (x.props.take i)
          rw [List.length_take] at this
          unfold dropPr; omega
        (repeat' (first | refine Wl.moveE (by conv => { lhs; whnf }) ?_ | refine Wc.seq ?_ | refine Wc.region ?_))
        refine Wl.idxAddr tr6.rd rfl rfl (by omega) (by rw [Int.toNat_natCast]; exact hx) fun b o cs hl hR hat => ?_
        obtain ⟨xv, rfl, hxr⟩ := hR
        obtain ⟨xa, xc, rfl, _, _⟩ := hxr.form
        (repeat' (refine Wl.fieldAddr rfl rfl ?_))
        refine Wl.load1 rfl (hat.get 2 rfl) ?_
        clear hat
        (repeat' (first | refine Wl.moveE (by conv => { lhs; whnf }) ?_ | refine Wl.assignE (by conv => { lhs; whnf }) ?_ | refine Wl.nil ?_ | refine Wl.lenS rfl ?_ | refine Qseq.normal ?_ | refine Wc.seq ?_ | refine Wc.region ?_ | refine Wc.block ?_ | refine Wc.skip ?_ | refine Wc.exit ?_ | refine Qseq.exit ?_ | refine Qblk.hit ?_ | refine Qloop.exit ?_ | refine Wc.condT rfl ?_ | refine Wc.condF rfl ?_ | refine Wl.lss rfl rfl (fun _ => ?_) (fun _ => ?_)))
        · obtain ⟨y, hy⟩ := get_lt x.props (k := i) (by omega)
          refine Wc.loop (σ := Nat) (fun m => [(3, ptrV w.heap.size), (6, vi k), (8, .slice (some ⟨g, 0, none⟩) (t.zip pvs).length gc), (9, lv), (10, vi i), (11, .bool ((p.drop.take m).contains y.1)), (12, vi m)])
            (fun m w' => m ≤ p.drop.length ∧ New w6 w') (fun m => p.drop.length - m) 0 ⟨rfl, rfl, rfl, rfl, rfl, rfl, rfl, trivial⟩ ⟨Nat.zero_le _, Chg.refl _ _⟩ ?_
          rintro m G w7 ⟨hm, n7⟩
          simp only [upds]
          have tr7 := tr6.new n7
          have b7 := b6.chg n7 id
          have hd7 := hd6.keep (stable_one _) n7.keep
          (repeat' (first | refine Wl.moveE (by conv => { lhs; whnf }) ?_ | refine Wc.seq ?_ | refine Wc.region ?_ | refine Wl.fieldAddr rfl rfl ?_))
          refine Wl.load1 rfl (b7.cell (o := 2) rfl) ?_
          (repeat' (first | refine Wl.moveE (by conv => { lhs; whnf }) ?_ | refine Wl.nil ?_ | refine Wl.notB rfl ?_ | refine Wl.lenS rfl ?_ | refine Qseq.normal ?_ | refine Wc.seq ?_ | refine Wc.region ?_ | refine Wc.block ?_ | refine Wc.skip ?_ | refine Wc.exit ?_ | refine Qseq.exit ?_ | refine Qblk.hit ?_ | refine Qloop.exit ?_ | refine Wc.condT rfl ?_ | refine Wc.condF rfl ?_ | refine Wl.lss rfl rfl (fun _ => ?_) (fun _ => ?_)))
          · obtain ⟨d, hdm⟩ := get_lt p.drop (k := m) (by omega)
            have hstep : (p.drop.take (m + 1)).contains y.1 = ((p.drop.take m).contains y.1 || decide (d = y.1)) := by
              rw [take_snoc hdm, Bool.eq_iff_iff]
              simp only [List.contains_iff_mem, List.mem_append, List.mem_singleton, Bool.or_eq_true, decide_eq_true_eq]
              exact ⟨fun h => h.imp id Eq.symm, fun h => h.imp id Eq.symm⟩
            cases hc : (p.drop.take m).contains y.1 with
            | true =>
              refine Wc.regionN rfl (by kernel_rfl) ?_
              (repeat' (first | refine Wq.moveE (by conv => { lhs; whnf }) ?_ | refine Wq.assignE (by conv => { lhs; whnf }) ?_ | refine Wq.nil ?_ | refine Wq.guardN rfl rfl ?_ | refine Wq.pickTE rfl (by conv => { lhs; whnf }) ?_))
              intro w8 n8
              (repeat' (first | refine Wl.moveE (by conv => { lhs; whnf }) ?_ | refine Wl.assignE (by conv => { lhs; whnf }) ?_ | refine Wl.nil ?_ | refine Qseq.normal ?_ | refine Wc.region ?_ | refine Qblk.normal ?_ | refine Wl.add rfl rfl (by omega) (by omega) ?_))
              refine Qloop.normal (m + 1) ⟨rfl, rfl, rfl, rfl, rfl, ?_, rfl, trivial⟩ ⟨by omega, New.trans n7 n8⟩ (by omega)
              show Value.bool true = _
              rw [hstep, hc]; rfl
            | false =>
              rw [hc, Bool.false_or] at hstep
              refine Wc.regionN rfl (by kernel_rfl) ?_
              (repeat' (first | refine Wq.moveE (by conv => { lhs; whnf }) ?_ | refine Wq.guardY rfl rfl ?_ | refine Wq.fieldAddr rfl rfl ?_))
              refine Wq.load1 rfl (fun w' hw => (b7.chg hw id).cell (o := 2) rfl) ?_
              (repeat' (first | refine Wq.moveE (by conv => { lhs; whnf }) ?_ | refine Wq.guardY rfl rfl ?_))
              refine Wq.idxAddrV hd7 (fun w' hw => New.keep hw) rfl rfl (by omega) hdm fun b o hcell => ?_
              (repeat' (refine Wq.guardY rfl rfl ?_))
              refine Wq.load1 rfl hcell ?_
              (repeat' (first | refine Wq.moveE (by conv => { lhs; whnf }) ?_ | refine Wq.guardY rfl rfl ?_))
              refine Wq.idxAddr tr7.rd (fun w' hw => New.keep hw) rfl rfl (by omega) (by rw [Int.toNat_natCast]; exact hx) fun b o cs hl hR hat => ?_
              obtain ⟨xv, rfl, hxr⟩ := hR
              obtain ⟨xa, xc, rfl, _, _⟩ := hxr.form
              (repeat' (first | refine Wq.guardY rfl rfl ?_ | refine Wq.fieldAddr rfl rfl ?_))
              refine Wq.load1 rfl (fun w' hw => (hat w' hw).get 2 rfl) ?_
              clear hat
              (repeat' (first | refine Wq.moveE (by conv => { lhs; whnf }) ?_ | refine Wq.guardY rfl rfl ?_))
              refine Wq.idxAddr hxr (fun w' hw => New.keep hw) rfl rfl (by omega) (by rw [Int.toNat_natCast]; exact hy) fun b o cs hl hR hat => ?_
              obtain rfl : cs = pC y := hR
              (repeat' (first | refine Wq.guardY rfl rfl ?_ | refine Wq.fieldAddr rfl rfl ?_))
              refine Wq.load1 rfl (fun w' hw => (hat w' hw).get 0 rfl) ?_
              clear hat
              (repeat' (first | refine Wq.assignE (by conv => { lhs; whnf }) ?_ | refine Wq.nil ?_ | refine Wq.guardY rfl rfl ?_ | refine Wq.pickFE rfl (by conv => { lhs; whnf }) ?_ | refine Wq.seql rfl rfl (fun _ => ?_) (fun _ => ?_)))
              · intro w8 n8
                (repeat' (first | refine Wl.moveE (by conv => { lhs; whnf }) ?_ | refine Wl.assignE (by conv => { lhs; whnf }) ?_ | refine Wl.nil ?_ | refine Qseq.normal ?_ | refine Wc.region ?_ | refine Qblk.normal ?_ | refine Wl.add rfl rfl (by omega) (by omega) ?_))
                refine Qloop.normal (m + 1) ⟨rfl, rfl, rfl, rfl, rfl, ?_, rfl, trivial⟩ ⟨by omega, New.trans n7 n8⟩ (by omega)
                show Value.bool true = _
                rw [hstep, decide_eq_true (by assumption)]
              · intro w8 n8
                (repeat' (first | refine Wl.moveE (by conv => { lhs; whnf }) ?_ | refine Wl.assignE (by conv => { lhs; whnf }) ?_ | refine Wl.nil ?_ | refine Qseq.normal ?_ | refine Wc.region ?_ | refine Qblk.normal ?_ | refine Wl.add rfl rfl (by omega) (by omega) ?_))
                refine Qloop.normal (m + 1) ⟨rfl, rfl, rfl, rfl, rfl, ?_, rfl, trivial⟩ ⟨by omega, New.trans n7 n8⟩ (by omega)
                show Value.bool false = _
                rw [hstep, decide_eq_false (by assumption)]
          · have e : m = p.drop.length := by omega
            subst e
            have hsn := dropPr_snoc (D := p.drop) hy
            have n57 := New.trans n6 n7
            have ol7 := ol6.new plainPr n7
            have s6 := n6.size
            have s7 := n7.size
            cases hc : (p.drop.take p.drop.length).contains y.1 with
            | true =>
              rw [List.take_length] at hc
              rw [if_pos hc] at hsn
              (repeat' (first | refine Wl.moveE (by conv => { lhs; whnf }) ?_ | refine Wl.assignE (by conv => { lhs; whnf }) ?_ | refine Wl.nil ?_ | refine Qseq.normal ?_ | refine Wc.region ?_ | refine Wc.skip ?_ | refine Qblk.normal ?_ | refine Wc.condF rfl ?_ | refine Wl.add rfl rfl (by omega) (by omega) ?_))
              exact Qloop.normal (i + 1, lv) ⟨rfl, rfl, rfl, rfl, rfl, trivial⟩ ⟨by dsimp only; omega, by dsimp only; rw [hsn]; exact ol7, n57⟩ (by dsimp only; omega)
            | false =>
              rw [List.take_length] at hc
              rw [hc, if_neg (by simp)] at hsn
              (repeat' (first | refine Wl.moveE (by conv => { lhs; whnf }) ?_ | refine Wc.region ?_ | refine Wc.condT rfl ?_))
              refine Wl.idxAddr tr7.rd rfl rfl (by omega) (by rw [Int.toNat_natCast]; exact hx) fun b o cs hl hR hat => ?_
              obtain ⟨xv, rfl, hxr⟩ := hR
              obtain ⟨xa, xc, rfl, _, _⟩ := hxr.form
              (repeat' (refine Wl.fieldAddr rfl rfl ?_))
              refine Wl.load1 rfl (hat.get 2 rfl) ?_
              clear hat
              (repeat' (refine Wl.moveE (by conv => { lhs; whnf }) ?_))
              refine Wl.idxAddr hxr rfl rfl (by omega) (by rw [Int.toNat_natCast]; exact hy) fun b o cs hl hR hat => ?_
              obtain rfl : cs = pC y := hR
              refine Wl.loadAt hat rfl rfl ?_
              clear hat
              refine Wl.append1 (R := rPr) (y := y) goodPr ol7 rfl rfl rfl rfl rfl (by omega) (by omega) (by simp only [maxLen]; omega) (by omega) rfl rfl fun lv' w8 q ol8 c8 lie => ?_
              (repeat' (first | refine Wl.moveE (by conv => { lhs; whnf }) ?_ | refine Wl.assignE (by conv => { lhs; whnf }) ?_ | refine Wl.nil ?_ | refine Qseq.normal ?_ | refine Wc.region ?_ | refine Qblk.normal ?_ | refine Wl.add rfl rfl (by omega) (by omega) ?_))
              refine Qloop.normal (i + 1, lv') ⟨rfl, rfl, rfl, rfl, rfl, trivial⟩ ⟨by dsimp only; omega, ?_, Chg.trans n57 c8 fun b hb e => by have := (ol7.lt e).1; omega⟩ (by dsimp only; omega)
              dsimp only
              rw [hsn]
              exact ol8.reblk fun b _ e => by rcases e with e | e <;> omega
        · have e : i = x.props.length := by omega
          subst e
          rw [List.take_length] at ol6
          have hdl := dropPr_len p.drop x.props
          obtain ⟨la, lc, rfl, _, _⟩ := ol6.form
          obtain ⟨qv, hqv, hzq⟩ := tr6.zip hx
          have s5 := n5.size
          have s6 := n6.size
          skip
          refine Wl.idxP rfl rfl (by omega) (by omega) ?_
          (repeat' (refine Wl.fieldAddr rfl rfl ?_))
          refine Wl.storeOwnF (f := ndV) (sz := 3) (o := 2) (j := k) (p := (x, qv)) (q := ({ x with props := dropPr p.drop x.props }, (la, (dropPr p.drop x.props).length, lc))) (u := .slice la (dropPr p.drop x.props).length lc) (g := g) (cap := gc) (fun _ => rfl) (by omega) rfl hzq rfl tr6.arr rfl (by show Value.pointer (some ⟨g, 0 + (k : Int).toNat * 3 + 2, none⟩) = _; simp) rfl fun w7 o7 c7 => ?_
          have tr7 := tr6.setAt (x' := { x with props := dropPr p.drop x.props }) (q := (la, (dropPr p.drop x.props).length, lc)) hk ((ol6.rd (mono_flat pC)).mono (mono_flat pC) fun b _ e => by
            rcases e with e | e
            · exact ⟨by have := n4.size; omega, fun e2 => by rw [hob] at e2; cases e2; omega⟩
            · exact e.elim) o7 c7
          have b7 := b6.chg c7 (fun e => by rw [hob] at e; cases e; have := b4.lt; omega)
          have n07 : New w w7 := Chg.trans n06 c7 fun b hb e => by rw [hob] at e; cases e; have := n4.size; omega
          have sm7 := hsm.set (ps := dropPr p.drop x.props) hx (by omega)
          have hk7 : k < (t.set k { x with props := dropPr p.drop x.props }).length := by simpa using hk
          generalize t.set k { x with props := dropPr p.drop x.props } = t7 at tr7 sm7 hk7 ⊢
          clear tr6 tr5 ol6 o7
          (repeat' (first | refine Wl.moveE (by conv => { lhs; whnf }) ?_ | refine Wl.nil ?_ | refine Qseq.normal ?_ | refine Wc.seq ?_ | refine Wc.region ?_ | refine Wl.fieldAddr rfl rfl ?_))
          refine Wl.load1 rfl (b7.cell (o := 1) rfl) ?_
          have hcall := layR_spec hpn p.nodes.length k 0 t7 w7 _ _ tr7.rd (hn.keep stableNd n07.keep) sm7 hk7 hpp (by omega)
          rw [show ((0 : Nat) : Int) = 0 from rfl] at hcall
          refine Wl.call hcall rfl ?_
          rintro _ w8 ⟨v8, pvs8, rfl, tr8, n8⟩
          have n08 := New.trans n07 n8
          have tr8' := tr8.low n07.size
          generalize rlay p.nodes p.nodes.length t7 k 0 = R at tr8' ⊢
          obtain ⟨u, ok⟩ := R
          cases ok with
          | false =>
            dsimp only
            (repeat' (first | refine Wl.moveE (by conv => { lhs; whnf }) ?_ | refine Wl.assignE (by conv => { lhs; whnf }) ?_ | refine Wl.nil ?_ | refine Wl.extract rfl rfl ?_ | refine Wl.guardN rfl rfl ?_ | refine Wl.pickTE rfl (by conv => { lhs; whnf }) ?_ | refine Wl.notB rfl ?_ | refine Qseq.normal ?_ | refine Wc.seq ?_ | refine Wc.region ?_ | refine Wc.ret ?_ | refine Qseq.ret ?_ | refine Wc.condT rfl ?_))
            exact Qfn.ret2 rfl rfl rfl ⟨_, rfl, _, [], rfl, n08, TrR.nil⟩
          | true =>
            dsimp only at tr8' ⊢
            (repeat' (first | refine Wl.moveE (by conv => { lhs; whnf }) ?_ | refine Wl.assignE (by conv => { lhs; whnf }) ?_ | refine Wl.nil ?_ | refine Wl.extract rfl rfl ?_ | refine Wl.guardY rfl rfl ?_ | refine Wl.notB rfl ?_ | refine Qseq.normal ?_ | refine Wc.seq ?_ | refine Wc.region ?_))
            refine Wl.call (mayR_spec tr8'.rd) rfl ?_
            rintro _ w9 ⟨rfl, n9⟩
            have n09 := New.trans n08 n9
            cases hu : treeOk u with
            | false =>
              rw [if_neg (by simp)]
              (repeat' (first | refine Wl.assignE (by conv => { lhs; whnf }) ?_ | refine Wl.nil ?_ | refine Wl.guardY rfl rfl ?_ | refine Wl.pickFE rfl (by conv => { lhs; whnf }) ?_ | refine Wl.notB rfl ?_ | refine Qseq.normal ?_ | refine Wc.seq ?_ | refine Wc.region ?_ | refine Wc.ret ?_ | refine Qseq.ret ?_ | refine Wc.condT rfl ?_))
              exact Qfn.ret2 rfl rfl rfl ⟨_, rfl, _, [], rfl, n09, TrR.nil⟩
            | true =>
              rw [if_pos rfl]
              (repeat' (first | refine Wl.moveE (by conv => { lhs; whnf }) ?_ | refine Wl.assignE (by conv => { lhs; whnf }) ?_ | refine Wl.nil ?_ | refine Wl.guardY rfl rfl ?_ | refine Wl.pickFE rfl (by conv => { lhs; whnf }) ?_ | refine Wl.notB rfl ?_ | refine Qseq.normal ?_ | refine Wc.seq ?_ | refine Wc.region ?_ | refine Wc.skip ?_ | refine Wc.ret ?_ | refine Wc.condF rfl ?_))
              exact Qfn.ret2 rfl rfl rfl ⟨_, rfl, _, pvs8, rfl, n09, tr8'.new n9⟩
end Go.Proofs.YtjpebmgllfiloaaDoor

namespace Go.Proofs.YtjpebmgllfiloaaDoor
open Go Wk

def shN (a d : Nat) (x : Nd) : Nd := if (a : Int) ≤ x.parent then { x with parent := x.parent + d } else x
theorem shN_one (a : Nat) (x : Nd) : shN a 1 x = shP a x := rfl
theorem shN_zero (a : Nat) (x : Nd) : shN a 0 x = x := by unfold shN; split <;> simp
theorem map_shN_zero (a : Nat) (l : List Nd) : l.map (shN a 0) = l := by rw [show shN a 0 = id from funext fun x => shN_zero a x, List.map_id]
theorem flK_append : ∀ (x y : List T) (u b : Nat), flK (x ++ y) u b = flK x u b ++ flK y u (b + szK x)
  | [], y, u, b => by simp [flK, szK]
  | t :: ts, y, u, b => by simp only [List.cons_append, flK, szK, flK_append ts y, List.append_assoc, Nat.add_assoc]
def shI (a d : Nat) (u : Int) : Int := if (a : Int) ≤ u then u + d else u
mutual
theorem flT_sh (a d : Nat) : ∀ (t : T) (up : Int) (b : Nat), a ≤ b → flT t (shI a d up) (b + d) = (flT t up b).map (shN a d)
  | .mk nm ps ks, up, b, h => by
    simp only [flT, List.map_cons]
    have h2 := flK_sh a d ks b (b + 1) (by omega)
    rw [show shI a d ((b : Nat) : Int) = ((b + d : Nat) : Int) by unfold shI; rw [if_pos (by omega)]; simp] at h2
    rw [Int.toNat_natCast] at h2
    rw [show b + d + 1 = b + 1 + d by omega, h2]
    congr 1
    unfold shN shI
    split <;> rfl
theorem flK_sh (a d : Nat) : ∀ (ks : List T) (u b : Nat), a ≤ b → flK ks (shI a d (u : Int)).toNat (b + d) = (flK ks u b).map (shN a d)
  | [], u, b, _ => rfl
  | t :: ts, u, b, h => by
    simp only [flK, List.map_append]
    have e : (((shI a d (u : Int)).toNat : Nat) : Int) = shI a d (u : Int) := by unfold shI; split <;> omega
    rw [e, flT_sh a d t u b h, show b + d + szT t = b + szT t + d by omega, flK_sh a d ts u (b + szT t) (by omega)]
end
theorem flK_sh_lt {a d u : Nat} (hu : u < a) (ks : List T) (b : Nat) (h : a ≤ b) : flK ks u (b + d) = (flK ks u b).map (shN a d) := by
  have := flK_sh a d ks u b h
  rwa [show shI a d (u : Int) = (u : Int) by unfold shI; rw [if_neg (by omega)], Int.toNat_natCast] at this
/-- The list of a tree with a part of it turned. -/
theorem repl_T {ν : List Nm} : ∀ {τ σ : T} {up : Int} {b a : Nat}, up < b → atP ν τ b = some (σ, a) →
    ∃ (pre post : List Nd) (up' : Int), flT τ up b = pre ++ (flT σ up' a ++ post) ∧ pre.length + b = a ∧ up' < a ∧ (∀ x ∈ pre, x.parent < a) ∧ (∀ x ∈ post, x.parent < a ∨ (a + szT σ : Int) ≤ x.parent) ∧ (∀ x, post.head? = some x → x.parent < a) ∧
      ∀ (σ' : T) (d : Nat), szT σ' = szT σ + d → flT (updP (fun _ => σ') ν τ) up b = pre ++ (flT σ' up' a ++ post.map (shN (a + szT σ) d)) := by
  induction ν with
  | nil =>
    intro τ σ up b a hup h
    simp only [atP, Option.some.injEq, Prod.mk.injEq] at h
    obtain ⟨rfl, rfl⟩ := h
    exact ⟨[], [], up, by simp, by simp, hup, by simp, by simp, by simp, fun σ' d hd => by simp [updP]⟩
  | cons nm r ih =>
    intro τ σ up b a hup h
    cases τ with
    | mk n ps ks =>
      rw [atP] at h
      simp only [T.kids] at h
      cases hk : kidAt nm ks (b + 1) with
      | none => rw [hk] at h; cases h
      | some q =>
        rw [hk] at h
        obtain ⟨κ, c⟩ := q
        obtain ⟨k1, k2, rfl, hno, hnm, hb, h4⟩ := kidAt_split hk
        simp only at hb h hnm h4
        subst hb
        obtain ⟨pre1, post1, up1, e1, e2, e3, e4, e5, e6, e7⟩ := ih (up := (b : Int)) (by omega) h
        have hlen := congrArg List.length e1
        simp only [flT_length, List.length_append] at hlen
        have hsz := szT_pos σ
        refine ⟨⟨up, n, ps⟩ :: (flK k1 b (b + 1) ++ pre1), post1 ++ flK k2 b (b + 1 + szK k1 + szT κ), up1, ?_, ?_, e3, ?_, ?_, ?_, fun σ' d hd => ?_⟩
        · simp only [flT, flK_append, flK, e1, List.cons_append, List.append_assoc]
        · simp only [List.length_cons, List.length_append, flK_length]; omega
        · intro x hx
          simp only [List.mem_cons, List.mem_append] at hx
          rcases hx with rfl | hx | hx
          · simp only; omega
          · rcases flK_par k1 b (b + 1) (by omega) x hx with h | h <;> omega
          · exact e4 x hx
        · intro x hx
          rcases List.mem_append.1 hx with hx | hx
          · exact e5 x hx
          · rcases flK_par k2 b (b + 1 + szK k1 + szT κ) (by omega) x hx with h | h
            · left; omega
            · right; omega
        · intro x hx
          cases post1 with
          | cons y l => exact e6 x (by simpa using hx)
          | nil =>
            rw [List.nil_append] at hx
            cases k2 with
            | nil => simp [flK] at hx
            | cons t ts =>
              obtain ⟨r, hr⟩ := flT_head t (b : Int) (b + 1 + szK k1 + szT κ)
              simp only [flK, hr, List.cons_append, List.head?_cons, Option.some.injEq] at hx
              subst hx
              simp only; omega
        · have hs := (szT_upd (σ' := σ') h).1
          simp only [updP, h4, flT, flK_append, flK, e7 σ' d hd, List.map_append, List.cons_append, List.append_assoc]
          rw [show b + 1 + szK k1 + szT (updP (fun _ => σ') r κ) = b + 1 + szK k1 + szT κ + d by omega, flK_sh_lt (a := a + szT σ) (by omega) k2 _ (by omega)]

theorem kidIn_find {u : Int} {nm : List UInt8} : ∀ (l : List Nd) (i : Nat), kidIn u nm i l = (l.findIdx? fun x => decide (x.parent = u) && decide (x.name = nm)).map (· + i)
  | [], i => rfl
  | x :: l, i => by
    rw [kidIn, List.findIdx?_cons]
    by_cases h : x.parent = u ∧ x.name = nm
    · rw [if_pos h, decide_eq_true h.1, decide_eq_true h.2]; simp
    · rw [if_neg h, show (decide (x.parent = u) && decide (x.name = nm)) = false by rw [← Bool.decide_and]; exact decide_eq_false h, kidIn_find l (i + 1)]
      simp only [Bool.false_eq_true, if_false, Option.map_map]
      congr 1; funext j; simp only [Function.comp]; omega
theorem kidL_in (t : List Nd) (u : Int) (nm : List UInt8) : kidL t u nm = kidIn u nm 0 t := by
  rw [kidIn_find]; unfold kidL; simp
section
variable {ν : List Nm} {τ σ : T} {a : Nat}
theorem kidL_T (h : atP ν τ 0 = some (σ, a)) (nm : List UInt8) : kidL (flT τ (-1) 0) (a : Int) nm = (kidAt nm σ.kids (a + 1)).map (·.2) := by
  obtain ⟨pre, post, up', e1, e2, e3, e4, e5, _, _⟩ := repl_T (up := -1) (by omega) h
  cases σ with
  | mk n ps ks =>
    rw [kidL_in, e1]
    simp only [flT, T.kids, List.cons_append]
    rw [show pre ++ ⟨up', n, ps⟩ :: (flK ks a (a + 1) ++ post) = (pre ++ [⟨up', n, ps⟩]) ++ (flK ks a (a + 1) ++ post) by simp]
    rw [kidIn_skip fun x hx => by
      rcases List.mem_append.1 hx with hx | hx
      · have := e4 x hx; omega
      · simp at hx; subst hx; simp only; omega]
    rw [show 0 + (pre ++ [(⟨up', n, ps⟩ : Nd)]).length = a + 1 by simp; omega]
    exact kidIn_fl (fun x hx => by
      have := szT_pos (.mk n ps ks)
      rcases e5 x hx with h | h <;> omega) ks (a + 1) (by omega)
theorem belowL_T (h : atP ν τ 0 = some (σ, a)) : belowL (flT τ (-1) 0) a = szT σ := by
  obtain ⟨pre, post, up', e1, e2, e3, e4, e5, e6, _⟩ := repl_T (up := -1) (by omega) h
  cases σ with
  | mk n ps ks =>
    unfold belowL
    rw [e1]
    simp only [flT, List.cons_append]
    rw [show pre ++ ⟨up', n, ps⟩ :: (flK ks a (a + 1) ++ post) = (pre ++ [⟨up', n, ps⟩]) ++ (flK ks a (a + 1) ++ post) by simp]
    rw [show a + 1 = (pre ++ [(⟨up', n, ps⟩ : Nd)]).length by simp; omega, List.drop_left]
    rw [show (pre ++ [(⟨up', n, ps⟩ : Nd)]).length = a + 1 by simp; omega]
    rw [List.takeWhile_append_of_pos fun x hx => decide_eq_true (by rcases flK_par ks a (a + 1) (by omega) x hx with h | h <;> omega)]
    have hp : post.takeWhile (fun x => decide ((a : Int) ≤ x.parent)) = [] := by
      cases post with
      | nil => rfl
      | cons x l =>
        have := e6 x rfl
        rw [List.takeWhile_cons, decide_eq_false (by omega)]; rfl
    rw [hp, List.append_nil, flK_length, szT]
theorem putL_T {n : List UInt8} {ps : List Pr} {ks : List T} (h : atP ν τ 0 = some (.mk n ps ks, a)) (nm : List UInt8) : putL (flT τ (-1) 0) a nm = flT (updP (fun _ => .mk n ps (ks ++ [.mk nm [] []])) ν τ) (-1) 0 := by
  have hb := belowL_T h
  obtain ⟨pre, post, up', e1, e2, e3, e4, e5, e6, e7⟩ := repl_T (up := -1) (by omega) h
  have h7 := e7 (T.mk n ps (ks ++ [T.mk nm [] []])) 1 (by simp only [szT, szK_append, szK]; omega)
  unfold putL
  rw [hb, h7, e1]
  have hl : (pre ++ flT (.mk n ps ks) up' a).length = a + szT (.mk n ps ks) := by rw [List.length_append, flT_length]; omega
  rw [← List.append_assoc, ← hl, List.take_left, List.drop_left, hl]
  simp only [flT, flK_append, flK, List.append_assoc, List.cons_append, List.nil_append, List.append_nil]
  rfl
theorem set_T {n : List UInt8} {ps qs : List Pr} {ks : List T} (h : atP ν τ 0 = some (.mk n ps ks, a)) : ∃ up', (flT τ (-1) 0)[a]? = some ⟨up', n, ps⟩ ∧ (flT τ (-1) 0).set a ⟨up', n, qs⟩ = flT (updP (fun _ => .mk n qs ks) ν τ) (-1) 0 := by
  obtain ⟨pre, post, up', e1, e2, e3, e4, e5, e6, e7⟩ := repl_T (up := -1) (by omega) h
  refine ⟨up', ?_, ?_⟩
  · rw [e1, List.getElem?_append_right (by omega), show a - pre.length = 0 by omega]; rfl
  · rw [e7 (.mk n qs ks) 0 rfl, e1, map_shN_zero, List.set_append_right _ _ (by omega), show a - pre.length = 0 by omega]; rfl
end
theorem updP_keep {σ' : T} {ν : List Nm} : ∀ {τ σ : T} {b a : Nat}, atP ν τ b = some (σ, a) → σ'.name = σ.name → (updP (fun _ => σ') ν τ).name = τ.name := by
  intro τ σ b a h hn
  cases ν with
  | nil =>
    simp only [atP, Option.some.injEq, Prod.mk.injEq] at h
    obtain ⟨rfl, _⟩ := h
    exact hn
  | cons nm r => cases τ; rfl
theorem updP_two {σ' σ'' : T} {ν : List Nm} : ∀ {τ σ : T} {b a : Nat}, atP ν τ b = some (σ, a) → σ'.name = σ.name → updP (fun _ => σ'') ν (updP (fun _ => σ') ν τ) = updP (fun _ => σ'') ν τ ∧ atP ν (updP (fun _ => σ') ν τ) b = some (σ', a) := by
  induction ν with
  | nil =>
    intro τ σ b a h hn
    simp only [atP, Option.some.injEq, Prod.mk.injEq] at h
    obtain ⟨rfl, rfl⟩ := h
    exact ⟨rfl, rfl⟩
  | cons nm r ih =>
    intro τ σ b a h hn
    cases τ with
    | mk n p ks =>
      rw [atP] at h
      simp only [T.kids] at h
      cases hk : kidAt nm ks (b + 1) with
      | none => rw [hk] at h; cases h
      | some q =>
        rw [hk] at h
        obtain ⟨κ, c⟩ := q
        obtain ⟨k1, k2, rfl, hno, hnm, hb, h4⟩ := kidAt_split hk
        simp only at hb h hnm h4
        subst hb
        obtain ⟨i1, i2⟩ := ih h hn
        have hkn := (updP_keep (σ' := σ') h hn).trans hnm
        simp only [updP, h4, atP, T.kids]
        rw [updK_app hno hkn, i1, kidAt_app hkn hno]
        exact ⟨rfl, i2⟩
theorem updP_snoc {g : T → T} {nm : Nm} {ν : List Nm} : ∀ {τ σ : T} {b a : Nat}, atP ν τ b = some (σ, a) → updP g (ν ++ [nm]) τ = updP (fun _ => .mk σ.name σ.props (updK nm g σ.kids)) ν τ := by
  induction ν with
  | nil =>
    intro τ σ b a h
    simp only [atP, Option.some.injEq, Prod.mk.injEq] at h
    obtain ⟨rfl, rfl⟩ := h
    cases τ; rfl
  | cons m r ih =>
    intro τ σ b a h
    cases τ with
    | mk n p ks =>
      rw [atP] at h
      simp only [T.kids] at h
      cases hk : kidAt m ks (b + 1) with
      | none => rw [hk] at h; cases h
      | some q =>
        rw [hk] at h
        obtain ⟨k1, k2, rfl, hno, hnm, hb, h4⟩ := kidAt_split hk
        simp only [List.cons_append, updP, h4, ih h]
theorem rloop_skip (pn : List Nd) (a n : Nat) (rec : List Nd → Nat → Nat → List Nd × Bool) (t : List Nd) : ∀ (m q : Nat), (∀ i x, q ≤ i → i < q + m → pn[i]? = some x → x.parent ≠ (n : Int)) →
    rloop pn a n rec ((List.range pn.length).drop q) t = rloop pn a n rec ((List.range pn.length).drop (q + m)) t
  | 0, q, _ => rfl
  | m + 1, q, h => by
    by_cases hq : q < pn.length
    · obtain ⟨x, hx⟩ := get_lt pn hq
      have hdr : (List.range pn.length).drop q = q :: (List.range pn.length).drop (q + 1) := drop_cons (by rw [List.getElem?_range hq])
      rw [hdr, rloop, hx]
      dsimp only
      rw [if_pos (h q x (Nat.le_refl _) (by omega) hx), rloop_skip pn a n rec t m (q + 1) fun i x h1 h2 h3 => h i x (by omega) (by omega) h3]
      congr 2; omega
    · rw [List.drop_eq_nil_of_le (by simp; omega), List.drop_eq_nil_of_le (by simp; omega)]
mutual
theorem rlay_T {pn : List Nd} : ∀ (π : T) (n : Nat) (upn : Int) (rest : List Nd) (f : Nat) (ν : List Nm) (τ σ : T) (a : Nat), pn.drop n = flT π upn n ++ rest → Off n (szT π) rest → szT π ≤ f → atP ν τ 0 = some (σ, a) → ∀ R, rlay pn f (flT τ (-1) 0) a n = R →
    (R.2 = true → R.1 = flT (updP (fun _ => layT π σ) ν τ) (-1) 0) ∧ (R.2 = false → bigT (layT π σ) = true ∨ 512 < szT (updP (fun _ => layT π σ) ν τ))
  | .mk pnm qs js, n, upn, rest, 0, ν, τ, σ, a, hpn, hoff, hf, hat, R, hR => by simp only [szT] at hf; omega
  | .mk pnm qs js, n, upn, rest, f + 1, ν, τ, σ, a, hpn, hoff, hf, hat, R, hR => by
    cases σ with
    | mk nm ps ks =>
      simp only [szT] at hf hoff
      have hx : pn[n]? = some ⟨upn, pnm, qs⟩ := get_flT hpn
      have hpn1 : pn.drop (n + 1) = flK js n (n + 1) ++ rest := drop_sub (r1 := [⟨upn, pnm, qs⟩]) (n := 1) (by simpa [flT] using hpn) rfl
      obtain ⟨up', h1, h2⟩ := set_T (qs := qs.foldl setPr ps) hat
      rw [rlay, h1, hx] at hR
      dsimp only at hR
      rw [h2] at hR
      have htw : ∀ σ'', updP (fun _ => σ'') ν (updP (fun _ => .mk nm (qs.foldl setPr ps) ks) ν τ) = updP (fun _ => σ'') ν τ := fun σ'' => (updP_two (σ' := .mk nm (qs.foldl setPr ps) ks) (σ'' := σ'') hat rfl).1
      have hat2 := (updP_two (σ' := .mk nm (qs.foldl setPr ps) ks) (σ'' := .mk nm (qs.foldl setPr ps) ks) hat rfl).2
      by_cases hbig : 32 < (qs.foldl setPr ps).length
      · rw [if_pos hbig] at hR
        subst hR
        exact ⟨fun e => (by cases e), fun _ => .inl (by simp only [layT, bigT, decide_eq_true hbig, Bool.true_or])⟩
      · rw [if_neg hbig] at hR
        have hl := rloop_T js (n + 1) n rest f ν (updP (fun _ => .mk nm (qs.foldl setPr ps) ks) ν τ) nm (qs.foldl setPr ps) ks a hpn1 (by omega) (fun x hx => by
          rcases hoff x hx with h | h
          · exact ⟨by omega, .inl (by omega)⟩
          · exact ⟨by omega, .inr (by omega)⟩) (by omega) hat2 R hR
        simp only [htw] at hl
        refine ⟨hl.1, fun e => ?_⟩
        rcases hl.2 e with h | h
        · left; simp only [layT, bigT, h, Bool.or_true]
        · exact .inr h
theorem rloop_T {pn : List Nd} : ∀ (πs : List T) (q n : Nat) (rest : List Nd) (f : Nat) (ν : List Nm) (τ : T) (nm : Nm) (ps : List Pr) (ks : List T) (a : Nat), pn.drop q = flK πs n q ++ rest → n < q → (∀ x ∈ rest, x.parent ≠ n ∧ (x.parent < q ∨ (q + szK πs : Int) ≤ x.parent)) → szK πs ≤ f →
    atP ν τ 0 = some (.mk nm ps ks, a) → ∀ R, rloop pn a n (fun t j k => rlay pn f t j k) ((List.range pn.length).drop q) (flT τ (-1) 0) = R →
    (R.2 = true → R.1 = flT (updP (fun _ => .mk nm ps (layK πs ks)) ν τ) (-1) 0) ∧ (R.2 = false → bigK (layK πs ks) = true ∨ 512 < szT (updP (fun _ => .mk nm ps (layK πs ks)) ν τ))
  | [], q, n, rest, f, ν, τ, nm, ps, ks, a, hpn, hn, hrest, hf, hat, R, hR => by
    simp only [flK, List.nil_append] at hpn
    have hs := rloop_skip pn a n (fun t j k => rlay pn f t j k) (flT τ (-1) 0) rest.length q fun i x h1 h2 h3 => by
      have h4 := drop_get (i := i - q) hpn
      rw [Nat.add_sub_cancel' h1, h3] at h4
      exact (hrest x (List.mem_of_getElem? h4.symm)).1
    have hlen : pn.length ≤ q + rest.length := by rw [← hpn, List.length_drop]; omega
    rw [hs, List.drop_eq_nil_of_le (by simpa using hlen), rloop] at hR
    subst hR
    obtain ⟨up', h1, h2⟩ := set_T (qs := ps) hat
    rw [list_set_self h1] at h2
    exact ⟨fun _ => by rw [layK]; exact h2, fun e => by cases e⟩
  | π :: πs, q, n, rest, f, ν, τ, nm, ps, ks, a, hpn, hn, hrest, hf, hat, R, hR => by
    simp only [flK, List.append_assoc] at hpn
    simp only [szK] at hf hrest
    have hszp := szT_pos π
    obtain ⟨fr, hfr⟩ := flT_head π (n : Int) q
    have hx : pn[q]? = some ⟨n, π.name, π.props⟩ := get_flT hpn
    have hql : q < pn.length := (List.getElem?_eq_some_iff.1 hx).1
    have hdr : (List.range pn.length).drop q = q :: (List.range pn.length).drop (q + 1) := drop_cons (by rw [List.getElem?_range hql])
    rw [hdr, rloop, hx] at hR
    dsimp only at hR
    rw [if_neg (by simp), kidL_T hat] at hR
    have hoff : Off q (szT π) (flK πs n (q + szT π) ++ rest) := by
      intro x hx
      rcases List.mem_append.1 hx with hx | hx
      · rcases flK_par πs n (q + szT π) (by omega) x hx with h | h
        · left; omega
        · right; omega
      · rcases (hrest x hx).2 with h | h
        · left; exact h
        · right; omega
    have hdr2 : pn.drop (q + szT π) = flK πs n (q + szT π) ++ rest := drop_sub hpn (flT_length _ _ _)
    have hskip : ∀ t', rloop pn a n (fun t j k => rlay pn f t j k) ((List.range pn.length).drop (q + 1)) t' = rloop pn a n (fun t j k => rlay pn f t j k) ((List.range pn.length).drop (q + szT π)) t' := fun t' => by
      have hs := rloop_skip pn a n (fun t j k => rlay pn f t j k) t' (szT π - 1) (q + 1) fun i x h1 h2 h3 => by
        have h4 := drop_get (i := i - q) hpn
        rw [Nat.add_sub_cancel' (by omega), h3, List.getElem?_append_left (by rw [flT_length]; omega), hfr] at h4
        obtain ⟨m, hm⟩ : ∃ m, i - q = m + 1 := ⟨i - q - 1, by omega⟩
        rw [hm, List.getElem?_cons_succ] at h4
        have := flT_par π n q fr hfr x (List.mem_of_getElem? h4.symm)
        omega
      rw [hs]; congr 2; omega
    have hrest2 : ∀ x ∈ rest, x.parent ≠ n ∧ (x.parent < ((q + szT π : Nat) : Int) ∨ ((q + szT π : Nat) + szK πs : Int) ≤ x.parent) := fun x hx => ⟨(hrest x hx).1, by
      rcases (hrest x hx).2 with h | h
      · left; omega
      · right; omega⟩
    rw [layK]
    simp only [T.kids] at hR
    rcases insK_cases (layT π) π.name ks with ⟨k1, t, k2, rfl, hno, htn, hins⟩ | ⟨hno, hins⟩
    · have hka := kidAt_app (b := a + 1) htn (k2 := k2) hno
      rw [hka] at hR
      simp only [Option.map_some] at hR
      have hat2 : atP (ν ++ [π.name]) τ 0 = some (t, a + 1 + szK k1) := by rw [atP_snoc, hat]; exact hka
      have hsn : ∀ X, updP (fun _ => X) (ν ++ [π.name]) τ = updP (fun _ => .mk nm ps (k1 ++ X :: k2)) ν τ := fun X => by
        rw [updP_snoc hat]
        show updP (fun _ => .mk nm ps (updK π.name (fun _ => X) (k1 ++ t :: k2))) ν τ = _
        rw [updK_app hno htn]
      have hrec := rlay_T π q n _ f (ν ++ [π.name]) τ t (a + 1 + szK k1) hpn hoff (by omega) hat2 _ rfl
      rw [hins]
      rw [hsn] at hrec
      generalize rlay pn f (flT τ (-1) 0) (a + 1 + szK k1) q = RR at hR hrec
      obtain ⟨t', ok⟩ := RR
      cases ok with
      | false =>
        dsimp only at hR hrec
        subst hR
        refine ⟨fun e => (by cases e), fun _ => ?_⟩
        have hm := layK_mono πs (k1 ++ layT π t :: k2)
        have z1 := (szT_upd (σ' := .mk nm ps (layK πs (k1 ++ layT π t :: k2))) hat).1
        have z2 := (szT_upd (σ' := .mk nm ps (k1 ++ layT π t :: k2)) hat).1
        simp only [szT, bigK_append, bigK, Bool.or_eq_true] at hm z1 z2
        rcases hrec.2 rfl with h | h
        · exact .inl (hm.2 (.inr (.inl h)))
        · right; omega
      | true =>
        dsimp only at hR hrec
        have h1 := hrec.1 rfl
        subst h1
        rw [hskip] at hR
        have hat3 := (updP_two (σ' := .mk nm ps (k1 ++ layT π t :: k2)) (σ'' := .mk nm ps (k1 ++ layT π t :: k2)) hat rfl).2
        have ih := rloop_T πs (q + szT π) n rest f ν _ nm ps (k1 ++ layT π t :: k2) a hdr2 (by omega) hrest2 (by omega) hat3 R hR
        rwa [(updP_two (σ' := .mk nm ps (k1 ++ layT π t :: k2)) hat rfl).1] at ih
    · have hkn : kidAt π.name ks (a + 1) = none := by
        cases hk : kidAt π.name ks (a + 1) with
        | none => rfl
        | some p =>
          obtain ⟨k1, k2, rfl, _, h, _⟩ := kidAt_split hk
          exact absurd h (hno p.1 (by simp))
      rw [hkn] at hR
      simp only [Option.map_none] at hR
      rw [hins]
      have hm := layK_mono πs (ks ++ [layT π (.mk π.name [] [])])
      have hm2 := (layT_mono π (.mk π.name [] [])).1
      have z1 := (szT_upd (σ' := .mk nm ps (layK πs (ks ++ [layT π (.mk π.name [] [])]))) hat).1
      simp only [szT, szK, szK_append] at hm hm2 z1
      rw [flT_length] at hR
      by_cases hc : 512 ≤ szT τ
      · rw [if_pos hc] at hR
        subst hR
        exact ⟨fun e => (by cases e), fun _ => .inr (by omega)⟩
      · rw [if_neg hc] at hR
        rw [putL_T hat, belowL_T hat] at hR
        have htw := fun σ'' => (updP_two (σ' := .mk nm ps (ks ++ [.mk π.name [] []])) (σ'' := σ'') hat rfl).1
        have hat2 := (updP_two (σ' := .mk nm ps (ks ++ [.mk π.name [] []])) (σ'' := .mk nm ps ks) hat rfl).2
        generalize updP (fun _ => .mk nm ps (ks ++ [.mk π.name [] []])) ν τ = τ2 at hR htw hat2
        have hka := kidAt_app (σ := .mk π.name [] []) (b := a + 1) rfl (k2 := []) hno
        have hat3 : atP (ν ++ [π.name]) τ2 0 = some (.mk π.name [] [], a + 1 + szK ks) := by rw [atP_snoc, hat2]; exact hka
        have hsn : ∀ X, updP (fun _ => X) (ν ++ [π.name]) τ2 = updP (fun _ => .mk nm ps (ks ++ [X])) ν τ := fun X => by
          rw [updP_snoc hat2, htw]
          show updP (fun _ => .mk nm ps (updK π.name (fun _ => X) (ks ++ .mk π.name [] [] :: []))) ν τ = _
          rw [updK_app (σ := .mk π.name [] []) (k2 := []) hno rfl]
        have hrec := rlay_T π q n _ f (ν ++ [π.name]) τ2 _ (a + 1 + szK ks) hpn hoff (by omega) hat3 _ rfl
        rw [hsn] at hrec
        rw [show a + szT (.mk nm ps ks) = a + 1 + szK ks by simp only [szT]; omega] at hR
        generalize rlay pn f (flT τ2 (-1) 0) (a + 1 + szK ks) q = RR at hR hrec
        obtain ⟨t', ok⟩ := RR
        cases ok with
        | false =>
          dsimp only at hR hrec
          subst hR
          refine ⟨fun e => (by cases e), fun _ => ?_⟩
          have z2 := (szT_upd (σ' := .mk nm ps (ks ++ [layT π (.mk π.name [] [])])) hat).1
          simp only [szT, szK, szK_append, bigK_append, bigK, Bool.or_eq_true, Bool.false_eq_true, or_false] at hm z1 z2
          rcases hrec.2 rfl with h | h
          · exact .inl (hm.2 (.inr h))
          · right; omega
        | true =>
          dsimp only at hR hrec
          have h1 := hrec.1 rfl
          subst h1
          rw [hskip] at hR
          have hat4 := (updP_two (σ' := .mk nm ps (ks ++ [layT π (.mk π.name [] [])])) (σ'' := .mk nm ps ks) hat rfl).2
          have ih := rloop_T πs (q + szT π) n rest f ν _ nm ps (ks ++ [layT π (.mk π.name [] [])]) a hdr2 (by omega) hrest2 (by omega) hat4 R hR
          rwa [(updP_two (σ' := .mk nm ps (ks ++ [layT π (.mk π.name [] [])])) hat rfl).1] at ih
end
/-- The references' Lay hands back what the program's does. -/
theorem layRM_M (t : List Nd) (p : Pc) : layRM t p = layM t p := by
  cases hok : treeOk t with
  | false =>
    unfold layRM layM
    rw [hok]; rfl
  | true =>
    cases hpk : pieceOk p with
    | false =>
      unfold layRM layM
      rw [hok, hpk]; rfl
    | true =>
      obtain ⟨τ, rfl, hτ⟩ := treeOk_parse hok
      obtain ⟨π, hπ, _⟩ := treeOk_parse (pieceOk_nodes hpk)
      rw [layM_T hpk hπ hτ]
      unfold layRM
      rw [if_pos hok, if_pos hpk, findM_T]
      cases hn : pathN p.target with
      | none => rfl
      | some nms =>
        simp only [Option.bind_some]
        cases ha : atP nms τ 0 with
        | none => rfl
        | some q =>
          obtain ⟨σ, i⟩ := q
          simp only [Option.map_some]
          cases σ with
          | mk n ps ks =>
            obtain ⟨up', h1, h2⟩ := set_T (qs := dropPr p.drop ps) ha
            rw [h1]
            dsimp only
            rw [h2]
            have hat := (updP_two (σ' := .mk n (dropPr p.drop ps) ks) (σ'' := .mk n ps ks) ha rfl).2
            have hR := rlay_T (pn := p.nodes) π 0 (-1) [] p.nodes.length nms _ _ i (by rw [hπ]; simp) (fun x hx => by simp at hx) (by rw [hπ, flT_length]; exact Nat.le_refl _) hat _ rfl
            rw [(updP_two (σ' := .mk n (dropPr p.drop ps) ks) ha rfl).1] at hR
            have hlo : layO p.drop nms π τ = updP (fun _ => layT π (.mk n (dropPr p.drop ps) ks)) nms τ := updP_const ha
            have hsz := szT_upd (σ' := layT π (.mk n (dropPr p.drop ps) ks)) ha
            rw [hlo]
            generalize updP (fun _ => layT π (.mk n (dropPr p.drop ps) ks)) nms τ = τ' at hR hsz
            generalize rlay p.nodes p.nodes.length _ i 0 = R at hR ⊢
            obtain ⟨u, ok⟩ := R
            cases ok with
            | false =>
              dsimp only
              rw [if_neg]
              intro hok'
              unfold okTree at hok'
              simp only [Bool.and_eq_true, decide_eq_true_eq] at hok'
              rcases hR.2 rfl with h | h
              · have := hsz.2 h
                rw [okT_big _ _ hok'.2.2] at this
                cases this
              · omega
            | true =>
              dsimp only at hR ⊢
              rw [hR.1 rfl, treeOk_flT]
end Go.Proofs.YtjpebmgllfiloaaDoor

namespace Go.Proofs.YtjpebmgllfiloaaDoor
open Go Wk
open Go.RowKit (Below)
attribute [local irreducible] Go.Calls

section
variable {P : Program} {n : Nat} {ds : List Deferred} {Q : Po} {F : Fr} {ops : List Oper} {C : World → Prop} {w : World}
theorem Wg.qh {f q : Nat} {r : List Nat} {o : Oper} (h : nextQ ops.toArray (q :: r) = some q) (ho : ops[q]? = some o) (hl : out q (q :: r) = r) (k : Wq P n ds C (fun F' => Wg P n ds C Q ops f r F' w) ops [o] F) : Wg P n ds C Q ops (f + 1) (q :: r) F w :=
  Wg.quiet h ho hl k
theorem Wg.oneH {f j : Nat} {r : List Nat} {o : Oper} (h : nextQ ops.toArray (j :: r) = none) (hr : (j :: r).filter (availB ops.toArray (j :: r)) = [j]) (ho : ops[j]? = some o) (hjl : Nat.beq (j + 1) ops.length = false) (hl : out j (j :: r) = r)
    (k : Wl P n ds (fun e F' w' => e = .normal ∧ C w' ∧ Wg P n ds C Q ops f r F' w') ops [o] F w) : Wg P n ds C Q ops (f + 1) (j :: r) F w := Wg.one h hr ho hjl hl k
theorem Wg.frame {f : Nat} {l : List Nat} (S : List (Nat × Value)) (h : agrees F S) (k : ∀ G, Wg P n ds C Q ops f l (upds G S) w) : Wg P n ds C Q ops f l F w := by
  have := k F; rwa [upds_of_agrees h] at this
end
/-- Small lists, short texts. -/
structure Bd (t : List Nd) : Prop where
  len : t.length ≤ 1500000
  pr : ∀ x ∈ t, x.props.length ≤ 1500000
  tx : ∀ x ∈ t, ∀ p ∈ x.props, p.1.length ≤ 1500000 ∧ p.2.length ≤ 1500000
theorem Bd.short {t : List Nd} (h : Bd t) : Short t := fun x hx p hp => by have := h.tx x hx p hp; simp only [maxLen]; omega
theorem TrL.setProps {lo : Nat} {lab : Lb} {w w' : World} {a : Option Addr} {cap : Nat} {t : List Nd} {pvs : List Sl} (h : TrL lo lab w a cap t pvs) {i : Nat} {x : Nd} {pv : Sl} {ps : List Pr} (hx : t[i]? = some x) (hp : pvs[i]? = some pv)
    (c : Chg (fun b => lab b = some (i + 1)) w w') (o : LentP (fun b => lab b = some (i + 1)) w' pv ps) : TrL lo lab w' a cap (t.set i { x with props := ps }) pvs := by
  have hz : (t.zip pvs)[i]? = some (x, pv) := List.getElem?_zip_eq_some.2 ⟨hx, hp⟩
  have hzi := (List.getElem?_eq_some_iff.1 hz).1
  refine ⟨by simpa using h.len, fun b q e => ⟨(h.low b q e).1, Nat.lt_of_lt_of_le (h.low b q e).2 c.size⟩, ?_, fun j y qv hy hq => ?_⟩
  · have ha := h.arr.chg (plain_flat ndV) c fun b e1 e2 => by rw [(h.arr.lt e1).1] at e2; cases e2
    rw [List.length_set]
    refine own_map ha ?_
    rw [List.map_append, List.map_append]
    congr 1
    apply List.ext_getElem?
    intro j
    rw [List.getElem?_map, List.getElem?_map]
    have : (t.set i { x with props := ps }).zip pvs = (t.zip pvs).set i ({ x with props := ps }, pv) := by rw [zip_set2, list_set_self hp]
    rw [this, List.getElem?_set]
    simp only [hzi, if_true]
    split
    · rename_i e
      subst e
      rw [hz]
      rfl
    · rfl
  · rw [List.getElem?_set] at hy
    split at hy
    · rename_i e
      subst e
      rw [if_pos (List.getElem?_eq_some_iff.1 hx).1] at hy
      cases hy
      rw [hp] at hq
      cases hq
      exact o
    · rename_i e
      obtain ⟨pa, pc, e1, ho⟩ := h.pr j y qv hy hq
      exact ⟨pa, pc, e1, ho.chg plainPr c fun b e1 e2 => by have := (ho.lt e1).1; rw [e2] at this; cases this; exact e rfl⟩
theorem PcL.chg {lo : Nat} {w w' : World} {r : Value} {p : Pc} {lab : Lb} {a : Option Addr} {cap : Nat} {pvs : List Sl} {da : Option Addr} {dc : Nat} {M : Nat → Prop} (h : PcL lo w r p lab a cap pvs da dc) (c : Chg M w w') (h1 : ∀ b, b < w.heap.size → M b → lab b = none) (h2 : ∀ b, (Value.slice da (p.drop.length + 1) dc).ownBlock = some b → ¬ M b) : PcL lo w' r p lab a cap pvs da dc :=
  ⟨h.eq, h.tl.chg c h1, h.dl.chg (plain_one _) c h2⟩
theorem PcL.rdn {lo : Nat} {w : World} {r : Value} {p : Pc} {lab : Lb} {a : Option Addr} {cap : Nat} {pvs : List Sl} {da : Option Addr} {dc : Nat} (h : PcL lo w r p lab a cap pvs da dc) : RdS rNd 3 (fun b => lo ≤ b) w (.slice a p.nodes.length cap) p.nodes := h.tl.own.rd
theorem PcL.rdd {lo : Nat} {w : World} {r : Value} {p : Pc} {lab : Lb} {a : Option Addr} {cap : Nat} {pvs : List Sl} {da : Option Addr} {dc : Nat} (h : PcL lo w r p lab a cap pvs da dc) : ∃ Pb, RdS (one vs) 1 Pb w (.slice da p.drop.length dc) p.drop := ⟨_, (own_short h.dl rfl).rd (mono_one _)⟩
abbrev Any : Nat → Prop := fun _ => True
theorem anyN {w : World} {v : Value} {t : List Nd} {Pb : Nat → Prop} (h : RdS rNd 3 Pb w v t) : RdS rNd 3 Any w v t := h.mono monoNd fun _ _ _ => trivial
theorem anyS {w : World} {v : Value} {t : List (List UInt8)} {Pb : Nat → Prop} (h : RdS (one vs) 1 Pb w v t) : RdS (one vs) 1 Any w v t := h.mono (mono_one _) fun _ _ _ => trivial
theorem layM_small {t : List Nd} {p : Pc} : Short (layM t p).1 ∧ (layM t p).1.length ≤ 2000000 ∧ ∀ x ∈ (layM t p).1, x.props.length ≤ 2000000 := by
  by_cases h : (layM t p).2 = 0
  · have hk := layM_ok (t := t) (p := p) (u := (layM t p).1) (Prod.ext rfl h)
    refine ⟨short_ok hk, ?_, fun x hx => ?_⟩
    · have := treeOk_len hk; omega
    · obtain ⟨i, hi⟩ := List.mem_iff_getElem?.1 hx
      have h1 := (treeOk_nd hk hi).pr
      unfold propsOk at h1
      simp only [Bool.and_eq_true, decide_eq_true_eq] at h1
      omega
  · rw [layM_err h]
    exact ⟨fun x hx => by simp at hx, by simp, fun x hx => by simp at hx⟩
/-- What is handed to the program: a tree and a piece, with marks. -/
structure LyW (l1 l2 l3 l4 : Nat) (w : World) (r : Value) (t : List Nd) (p : Pc) (lab : Lb) (xa : Option Addr) (xc : Nat) (pvs : List Sl) (laby : Lb) (ya : Option Addr) (yc : Nat) (qvs : List Sl) (da : Option Addr) (dc : Nat) : Prop where
  tx : TrL l1 lab w xa xc t pvs
  py : PcL l2 w r p laby ya yc qvs da dc
  b6 : Bk w l3 25 [vs p.target, .slice ya p.nodes.length yc, .slice da p.drop.length dc]
  hx : ∀ b c, lab b = some c → l1 ≤ b ∧ b < l2
  hy : ∀ b c, laby b = some c → l2 ≤ b ∧ b < l3
  hd : ∀ b, (Value.slice da (p.drop.length + 1) dc).ownBlock = some b → b < l3 ∧ laby b = none ∧ l2 ≤ b
  l23 : l2 ≤ l3
  l34 : l3 < l4
  s4 : l4 ≤ w.heap.size
section
variable {l1 l2 l3 l4 : Nat} {w w' : World} {r : Value} {t : List Nd} {p : Pc} {lab laby : Lb} {xa ya da : Option Addr} {xc yc dc : Nat} {pvs qvs : List Sl} {M : Nat → Prop}
theorem LyW.chg (h : LyW l1 l2 l3 l4 w r t p lab xa xc pvs laby ya yc qvs da dc) (c : Chg M w w') (hM : ∀ b, M b → l4 ≤ b) : LyW l1 l2 l3 l4 w' r t p lab xa xc pvs laby ya yc qvs da dc := by
  have h1 := h.l34
  have h2 := h.l23
  refine ⟨h.tx.chg c fun b hb e => ?_, h.py.chg c (fun b hb e => ?_) (fun b e1 e2 => ?_), h.b6.chg c fun e => ?_, h.hx, h.hy, h.hd, h2, h1, Nat.le_trans h.s4 c.size⟩
  · cases hq : lab b with
    | none => rfl
    | some q => have := (h.hx b q hq).2; have := hM b e; omega
  · cases hq : laby b with
    | none => rfl
    | some q => have := (h.hy b q hq).2; have := hM b e; omega
  · have := (h.hd b e1).1; have := hM b e2; omega
  · have := hM _ e; omega
theorem LyW.new (h : LyW l1 l2 l3 l4 w r t p lab xa xc pvs laby ya yc qvs da dc) (c : New w w') : LyW l1 l2 l3 l4 w' r t p lab xa xc pvs laby ya yc qvs da dc := h.chg c fun _ e => e.elim
theorem LyW.eq (h : LyW l1 l2 l3 l4 w r t p lab xa xc pvs laby ya yc qvs da dc) : r = .agg #[vs p.target, .slice ya p.nodes.length yc, .slice da p.drop.length dc] := h.py.eq
end
set_option maxHeartbeats 8000000 in
set_option maxRecDepth 8000 in
theorem lays_law {w : World} {tv nv dv : Value} {t : List Nd} {p : Pc} (ht : RdS rNd 3 (fun b => b < w.heap.size) w tv t) (hn : RdS rNd 3 (fun b => b < w.heap.size) w nv p.nodes) (hd : RdS (one vs) 1 (fun b => b < w.heap.size) w dv p.drop)
    (bt : Bd t) (bp : Bd p.nodes) (hdl : p.drop.length ≤ 1500000) (hs : p.target.length ≤ 1500000) :
    Calls Tryd.prog 3 #[tv, .agg #[vs p.target, nv, dv]] w (Ret fun r w' => r = .bool true ∧ New w w') := by
  refine calls_of_Wc Tryd.func3 rfl Tryd.ntmps3 rfl ?_
  (repeat' (first | refine Wc.seq ?_ | refine Wc.region ?_))
  refine Wl.box rfl fun w1 b1 n1 s1 => ?_
  replace b1 : Bk w1 w.heap.size 25 [vs p.target, nv, dv] := b1
  (repeat' (first | refine Wl.moveE (by conv => { lhs; whnf }) ?_ | refine Wl.assignE (by conv => { lhs; whnf }) ?_ | refine Wl.nil ?_ | refine Qseq.normal ?_ | refine Wc.seq ?_ | refine Wc.region ?_))
  refine Wl.call (lent_spec (ht.keep stableNd n1.keep) (by have := bt.len; omega) bt.pr) rfl ?_
  rintro _ w2 ⟨lab, xa, xc, pvs, rfl, tx, n2⟩
  have n02 := New.trans n1 n2
  have n23lt : w.heap.size < w1.heap.size := b1.lt
  (repeat' (first | refine Wl.assignE (by conv => { lhs; whnf }) ?_ | refine Wl.nil ?_ | refine Qseq.normal ?_ | refine Wc.seq ?_ | refine Wc.region ?_))
  refine Wl.loadB (b1.chg n2 id) rfl rfl ?_
  refine Wl.call (lentPiece_spec (hn.keep stableNd n02.keep) (hd.keep (stable_one _) n02.keep) bp.len bp.pr hdl) rfl ?_
  rintro r w3 ⟨⟨laby, ya, yc, qvs, da, dc, py⟩, n3⟩
  obtain rfl := py.eq
  have n03 := New.trans n02 n3
  skip
  refine Wl.alloc fun w4 z4 n4 s4 => ?_
  refine Wl.storeB (new := [vs p.target, .slice ya p.nodes.length yc, .slice da p.drop.length dc]) z4 rfl rfl rfl rfl (show (3 : Nat) ≤ 3 from Nat.le_refl 3) (by intro c hc; simp at hc; rcases hc with rfl | rfl | rfl <;> rfl) fun w5 z5 c5 s5 => ?_
  replace z5 : Bk w5 w3.heap.size 25 [vs p.target, .slice ya p.nodes.length yc, .slice da p.drop.length dc] := z5
  have n04 := New.trans n03 n4
  have n05 : New w w5 := Chg.trans n04 c5 fun b hb e => by have := n03.size; omega
  have n23 := n3.size
  have n2w : w.heap.size ≤ w2.heap.size := n02.size
  have s05 := n05.size
  have hx2 : ∀ b c, lab b = some c → w1.heap.size ≤ b ∧ b < w2.heap.size := tx.low
  have hy2 : ∀ b c, laby b = some c → w2.heap.size ≤ b ∧ b < w3.heap.size := py.tl.low
  have W5 : LyW w1.heap.size w2.heap.size w3.heap.size w5.heap.size w5 _ t p lab xa xc pvs laby ya yc qvs da dc :=
    ⟨((tx.new n3).new n4).chg c5 (fun b hb e => by
        cases hq : lab b with
        | none => rfl
        | some q => have := (hx2 b q hq).2; omega), (py.new n4).chg c5 (fun b hb e => by
        cases hq : laby b with
        | none => rfl
        | some q => have := (hy2 b q hq).2; omega) (fun b e1 e2 => by have := (py.dl.lt e1).2; omega), z5, hx2, hy2, fun b e => by have := py.dl.lt e; exact ⟨this.2, this.1.2, this.1.1⟩, n23, by omega, Nat.le_refl _⟩
  have b15 : Bk w5 w.heap.size 25 [vs p.target, nv, dv] := ((b1.chg (New.trans n2 n3) id).chg n4 id).chg c5 (by have := n03.size; have := b1.lt; have := n2.size; omega)
  clear tx py z4 z5 c5
  (repeat' (first | refine Wl.moveE (by conv => { lhs; whnf }) ?_ | refine Wl.nil ?_ | refine Qseq.normal ?_ | refine Wc.seq ?_ | refine Wc.region ?_))
  refine Wl.loadB b15 rfl rfl ?_
  refine Wl.call (LayR_spec (ht.keep stableNd n05.keep) (hn.keep stableNd n05.keep) (hd.keep (stable_one _) n05.keep)) rfl ?_
  rintro _ w6 ⟨wv, wvs, rfl, n6, tw⟩
  rw [layRM_M] at tw ⊢
  have s6 := n6.size
  (repeat' (first | refine Wl.moveE (by conv => { lhs; whnf }) ?_ | refine Wl.assignE (by conv => { lhs; whnf }) ?_ | refine Wl.nil ?_ | refine Wl.extract rfl rfl ?_ | refine Qseq.normal ?_ | refine Wc.seq ?_ | refine Wc.region ?_))
  refine Wl.loadB (W5.b6.chg n6 id) rfl rfl ?_
  obtain ⟨Pd5, rd5⟩ := W5.py.rdd
  refine Wl.call (Lay_spec (anyN (W5.tx.own.rd.keep stableNd n6.keep)) (anyN (W5.py.rdn.keep stableNd n6.keep)) (anyS (rd5.keep (stable_one _) n6.keep)) (by omega)) rfl ?_
  rintro _ w7 ⟨v1, rfl, n7, lab1, pvs1, t1⟩
  have n57 := New.trans n6 n7
  have s7 := n7.size
  (repeat' (first | refine Wl.moveE (by conv => { lhs; whnf }) ?_ | refine Wl.assignE (by conv => { lhs; whnf }) ?_ | refine Wl.nil ?_ | refine Wl.extract rfl rfl ?_ | refine Qseq.normal ?_ | refine Wc.seq ?_ | refine Wc.region ?_))
  refine Wl.loadB (W5.b6.chg n57 id) rfl rfl ?_
  refine Wl.call (Lay_spec (anyN (W5.tx.own.rd.keep stableNd n57.keep)) (anyN (W5.py.rdn.keep stableNd n57.keep)) (anyS (rd5.keep (stable_one _) n57.keep)) (by omega)) rfl ?_
  rintro _ w8 ⟨v2, rfl, n8, lab2, pvs2, t2⟩
  have n58 := New.trans n57 n8
  have s8 := n8.size
  have W8 := W5.new n58
  have b18 := b15.chg n58 id
  have l1w : ∀ b, lab1 b ≠ none → w6.heap.size ≤ b ∧ b < w7.heap.size := fun b e => by
    cases hq : lab1 b with
    | none => exact absurd hq e
    | some q => exact t1.low b q hq
  have t18 := t1.new n8
  have tw8 := ((tw.rd.mono monoNd (Pb' := fun b => b < w6.heap.size) fun b hb _ => hb).keep stableNd (New.trans n7 n8).keep)
  have t28 := t2.rd
  obtain ⟨sh, hlen, hpr⟩ := layM_small (t := t) (p := p)
  generalize hR : layM t p = R at *
  have ht8 := ht.keep stableNd (New.trans n05 n58).keep
  have hn8 := hn.keep stableNd (New.trans n05 n58).keep
  have hd8 := hd.keep (stable_one _) (New.trans n05 n58).keep
  have n08 := New.trans n05 n58
  have s15 : w.heap.size < w5.heap.size := b15.lt
  clear t1 tw t2 W5 b15 b1
  have kW : ∀ {w' : World}, Chg (fun b => lab1 b ≠ none) w8 w' → LyW w1.heap.size w2.heap.size w3.heap.size w5.heap.size w' _ t p lab xa xc pvs laby ya yc qvs da dc := fun c => W8.chg c fun b e => by have := (l1w b e).1; omega
  have kb : ∀ {w' : World}, Chg (fun b => lab1 b ≠ none) w8 w' → Bk w' w.heap.size 25 [vs p.target, nv, dv] := fun c => b18.chg c fun e => by have := (l1w _ e).1; omega
  have kt : ∀ {w' : World}, Chg (fun b => lab1 b ≠ none) w8 w' → Keep (fun b => b < w.heap.size) w8 w' := fun c => c.keep fun b _ e1 e2 => by have := (l1w b e2).1; omega
  (repeat' (first | refine Wl.moveE (by conv => { lhs; whnf }) ?_ | refine Wl.assignE (by conv => { lhs; whnf }) ?_ | refine Wl.nil ?_ | refine Wl.extract rfl rfl ?_ | refine Qseq.normal ?_))
  refine Wc.cut (fun F w' => agrees F [(5, .slice xa t.length xc), (6, ptrV w3.heap.size)] ∧ Chg (fun b => lab1 b ≠ none) w8 w') ?_ ?_
  · refine Wc.cut (fun F w' => agrees F [(5, .slice xa t.length xc), (6, ptrV w3.heap.size), (84, .bool false)] ∧ Chg (fun b => lab1 b ≠ none) w8 w') ?_ ?_
    · refine Wc.regionG (m := 46) rfl (by kernel_rfl) (fun w' => Chg (fun b => lab1 b ≠ none) w8 w') (Chg.drew _ _) rfl ?_
      intro w9 n9
      show Wg _ _ _ _ _ _ _ [0, 1, 2, 3, 4, 5, 6, 7, 8, 9, 10, 11, 12, 13, 14, 15, 16, 17, 18, 19, 20, 21, 22, 23, 24, 25, 26, 27, 28, 29, 30, 31, 32, 33, 34, 35, 36, 37, 38, 39, 40, 41, 42, 43, 44, 45] _ _
      refine Wg.qh rfl rfl rfl (Wq.loadAt (fun w' hw => (kW hw).b6.at) rfl rfl (Wq.nil ?_))
      refine Wg.quiet (q := 2) (l' := [1, 3, 4, 5, 6, 7, 8, 9, 10, 11, 12, 13, 14, 15, 16, 17, 18, 19, 20, 21, 22, 23, 24, 25, 26, 27, 28, 29, 30, 31, 32, 33, 34, 35, 36, 37, 38, 39, 40, 41, 42, 43, 44, 45]) rfl rfl rfl (Wq.loadAt (fun w' hw => (kb hw).at) rfl rfl (Wq.nil ?_))
      have n9' : Chg (fun b => lab1 b ≠ none) w8 w9 := n9.any
      have W9 := W8.new n9
      obtain ⟨Pd9, rd9⟩ := W9.py.rdd
      have ck1 := fun (w' : World) (hw : New w9 w') => CheckP_spec (anyN (W9.py.rdn.keep stableNd hw.keep)) (anyS (rd9.keep (stable_one _) hw.keep))
      have ck2 := fun (w' : World) (hw : New w9 w') => CheckPR_spec (p := p) (anyN (hn8.keep stableNd (New.trans n9 hw).keep)) (anyS (hd8.keep (stable_one _) (New.trans n9 hw).keep))
      refine Wg.oneH rfl rfl rfl rfl rfl (Wl.call (ck1 _ (Chg.refl _ _)) rfl ?_)
      rintro _ w10 ⟨rfl, n10⟩
      refine Wl.nil ⟨rfl, (New.trans n9 n10).any, ?_⟩
      refine Wg.oneH rfl rfl rfl rfl rfl (Wl.call (ck2 _ n10) rfl ?_)
      rintro _ w11 ⟨rfl, n11'⟩
      refine Wl.nil ⟨rfl, (New.trans n9 (New.trans n10 n11')).any, ?_⟩
      have n11 := New.trans n9 (New.trans n10 n11')
      clear ck1 ck2 rd9 W9 n9' n9 n10 n11'
      have W11 := W8.new n11
      have t11 := ht8.keep stableNd n11.keep
      (repeat' (first | refine Wg.nil ?_ | (refine Wg.qh rfl rfl rfl ?_; (try refine Wq.guardY rfl rfl ?_); (first | refine Wq.moveE (by conv => { lhs; whnf }) ?_ | refine Wq.assignE (by conv => { lhs; whnf }) ?_ | refine Wq.extract rfl rfl ?_ | refine Wq.pickTE rfl (by conv => { lhs; whnf }) ?_ | refine Wq.pickFE rfl (by conv => { lhs; whnf }) ?_ | refine Wq.notB rfl ?_ | refine Wq.lenS rfl ?_ | refine Wq.lenStr rfl ?_ | refine Wq.nilP rfl ?_ | refine Wq.fieldAddr rfl rfl ?_ | refine Wq.add rfl rfl (by omega) (by omega) ?_ | refine Wq.sub rfl rfl (by omega) (by omega) ?_ | refine Wq.mul rfl rfl (by omega) (by omega) ?_ | refine Wq.convI rfl ?_ | (refine Wq.lss rfl rfl (fun _ => ?_) (fun _ => ?_) <;> (first | (exfalso; omega) | (exfalso; contradiction) | skip)) | (refine Wq.leq rfl rfl (fun _ => ?_) (fun _ => ?_) <;> (first | (exfalso; omega) | (exfalso; contradiction) | skip)) | (refine Wq.gtr rfl rfl (fun _ => ?_) (fun _ => ?_) <;> (first | (exfalso; omega) | (exfalso; contradiction) | skip)) | (refine Wq.geq rfl rfl (fun _ => ?_) (fun _ => ?_) <;> (first | (exfalso; omega) | (exfalso; contradiction) | skip)) | (refine Wq.eql rfl rfl (fun _ => ?_) (fun _ => ?_) <;> (first | (exfalso; omega) | (exfalso; contradiction) | skip)) | (refine Wq.neq rfl rfl (fun _ => ?_) (fun _ => ?_) <;> (first | (exfalso; omega) | (exfalso; contradiction) | skip)) | (refine Wq.seql rfl rfl (fun _ => ?_) (fun _ => ?_) <;> (first | (exfalso; omega) | (exfalso; contradiction) | skip)) | (refine Wq.sneq rfl rfl (fun _ => ?_) (fun _ => ?_) <;> (first | (exfalso; omega) | (exfalso; contradiction) | skip))); all_goals (try refine Wq.nil ?_))))
      refine Wg.oneH rfl rfl rfl rfl rfl (Wl.guardY rfl rfl (Wl.call (kept_spec W11.tx t11 bt.short) rfl ?_))
      rintro _ w12 ⟨rfl, n12⟩
      have n812 := New.trans n11 n12
      refine Wl.nil ⟨rfl, n812.any, ?_⟩
      (repeat' (first | refine Wg.nil ?_ | (refine Wg.qh rfl rfl rfl ?_; (try refine Wq.guardY rfl rfl ?_); (first | refine Wq.moveE (by conv => { lhs; whnf }) ?_ | refine Wq.assignE (by conv => { lhs; whnf }) ?_ | refine Wq.extract rfl rfl ?_ | refine Wq.pickTE rfl (by conv => { lhs; whnf }) ?_ | refine Wq.pickFE rfl (by conv => { lhs; whnf }) ?_ | refine Wq.notB rfl ?_ | refine Wq.lenS rfl ?_ | refine Wq.lenStr rfl ?_ | refine Wq.nilP rfl ?_ | refine Wq.fieldAddr rfl rfl ?_ | refine Wq.add rfl rfl (by omega) (by omega) ?_ | refine Wq.sub rfl rfl (by omega) (by omega) ?_ | refine Wq.mul rfl rfl (by omega) (by omega) ?_ | refine Wq.convI rfl ?_ | (refine Wq.lss rfl rfl (fun _ => ?_) (fun _ => ?_) <;> (first | (exfalso; omega) | (exfalso; contradiction) | skip)) | (refine Wq.leq rfl rfl (fun _ => ?_) (fun _ => ?_) <;> (first | (exfalso; omega) | (exfalso; contradiction) | skip)) | (refine Wq.gtr rfl rfl (fun _ => ?_) (fun _ => ?_) <;> (first | (exfalso; omega) | (exfalso; contradiction) | skip)) | (refine Wq.geq rfl rfl (fun _ => ?_) (fun _ => ?_) <;> (first | (exfalso; omega) | (exfalso; contradiction) | skip)) | (refine Wq.eql rfl rfl (fun _ => ?_) (fun _ => ?_) <;> (first | (exfalso; omega) | (exfalso; contradiction) | skip)) | (refine Wq.neq rfl rfl (fun _ => ?_) (fun _ => ?_) <;> (first | (exfalso; omega) | (exfalso; contradiction) | skip)) | (refine Wq.seql rfl rfl (fun _ => ?_) (fun _ => ?_) <;> (first | (exfalso; omega) | (exfalso; contradiction) | skip)) | (refine Wq.sneq rfl rfl (fun _ => ?_) (fun _ => ?_) <;> (first | (exfalso; omega) | (exfalso; contradiction) | skip))); all_goals (try refine Wq.nil ?_))))
      refine Wg.qh rfl rfl rfl (Wq.guardY rfl rfl (Wq.loadAt (fun w' hw => (kW hw).b6.at) rfl rfl (Wq.nil ?_)))
      refine Wg.qh rfl rfl rfl (Wq.guardY rfl rfl (Wq.loadAt (fun w' hw => (kb hw).at) rfl rfl (Wq.nil ?_)))
      have W12 := W8.new n812
      refine Wg.oneH rfl rfl rfl rfl rfl (Wl.guardY rfl rfl (Wl.call (keptPiece_spec W12.py (anyN (hn8.keep stableNd n812.keep)) (anyS (hd8.keep (stable_one _) n812.keep)) bp.short) rfl ?_))
      rintro _ w13 ⟨rfl, n13⟩
      have n813 := New.trans n812 n13
      refine Wl.nil ⟨rfl, n813.any, ?_⟩
      (repeat' (first | refine Wg.nil ?_ | (refine Wg.qh rfl rfl rfl ?_; (try refine Wq.guardY rfl rfl ?_); (first | refine Wq.moveE (by conv => { lhs; whnf }) ?_ | refine Wq.assignE (by conv => { lhs; whnf }) ?_ | refine Wq.extract rfl rfl ?_ | refine Wq.pickTE rfl (by conv => { lhs; whnf }) ?_ | refine Wq.pickFE rfl (by conv => { lhs; whnf }) ?_ | refine Wq.notB rfl ?_ | refine Wq.lenS rfl ?_ | refine Wq.lenStr rfl ?_ | refine Wq.nilP rfl ?_ | refine Wq.fieldAddr rfl rfl ?_ | refine Wq.add rfl rfl (by omega) (by omega) ?_ | refine Wq.sub rfl rfl (by omega) (by omega) ?_ | refine Wq.mul rfl rfl (by omega) (by omega) ?_ | refine Wq.convI rfl ?_ | (refine Wq.lss rfl rfl (fun _ => ?_) (fun _ => ?_) <;> (first | (exfalso; omega) | (exfalso; contradiction) | skip)) | (refine Wq.leq rfl rfl (fun _ => ?_) (fun _ => ?_) <;> (first | (exfalso; omega) | (exfalso; contradiction) | skip)) | (refine Wq.gtr rfl rfl (fun _ => ?_) (fun _ => ?_) <;> (first | (exfalso; omega) | (exfalso; contradiction) | skip)) | (refine Wq.geq rfl rfl (fun _ => ?_) (fun _ => ?_) <;> (first | (exfalso; omega) | (exfalso; contradiction) | skip)) | (refine Wq.eql rfl rfl (fun _ => ?_) (fun _ => ?_) <;> (first | (exfalso; omega) | (exfalso; contradiction) | skip)) | (refine Wq.neq rfl rfl (fun _ => ?_) (fun _ => ?_) <;> (first | (exfalso; omega) | (exfalso; contradiction) | skip)) | (refine Wq.seql rfl rfl (fun _ => ?_) (fun _ => ?_) <;> (first | (exfalso; omega) | (exfalso; contradiction) | skip)) | (refine Wq.sneq rfl rfl (fun _ => ?_) (fun _ => ?_) <;> (first | (exfalso; omega) | (exfalso; contradiction) | skip))); all_goals (try refine Wq.nil ?_))))
      refine Wg.oneH rfl rfl rfl rfl rfl (Wl.guardY rfl rfl (Wl.call (apart_spec (t18.new n813) (t28.keep stableNd n813.keep) (tw8.keep stableNd n813.keep) (fun b hb e => ?_) (fun b hb e => ?_) sh hlen hpr) rfl ?_))
      · cases hq : lab1 b with
        | none => rfl
        | some q => have := (l1w b (by rw [hq]; simp)).2; omega
      · cases hq : lab1 b with
        | none => rfl
        | some q => have := (l1w b (by rw [hq]; simp)).1; omega
      rintro _ w14 ⟨rfl, c14⟩
      have c814 : Chg (fun b => lab1 b ≠ none) w8 w14 := Chg.trans n813.any c14 fun _ _ e => e
      refine Wl.nil ⟨rfl, c814, ?_⟩
      (repeat' (first | refine Wg.nil ?_ | (refine Wg.qh rfl rfl rfl ?_; (try refine Wq.guardY rfl rfl ?_); (first | refine Wq.moveE (by conv => { lhs; whnf }) ?_ | refine Wq.assignE (by conv => { lhs; whnf }) ?_ | refine Wq.extract rfl rfl ?_ | refine Wq.pickTE rfl (by conv => { lhs; whnf }) ?_ | refine Wq.pickFE rfl (by conv => { lhs; whnf }) ?_ | refine Wq.notB rfl ?_ | refine Wq.lenS rfl ?_ | refine Wq.lenStr rfl ?_ | refine Wq.nilP rfl ?_ | refine Wq.fieldAddr rfl rfl ?_ | refine Wq.add rfl rfl (by omega) (by omega) ?_ | refine Wq.sub rfl rfl (by omega) (by omega) ?_ | refine Wq.mul rfl rfl (by omega) (by omega) ?_ | refine Wq.convI rfl ?_ | (refine Wq.lss rfl rfl (fun _ => ?_) (fun _ => ?_) <;> (first | (exfalso; omega) | (exfalso; contradiction) | skip)) | (refine Wq.leq rfl rfl (fun _ => ?_) (fun _ => ?_) <;> (first | (exfalso; omega) | (exfalso; contradiction) | skip)) | (refine Wq.gtr rfl rfl (fun _ => ?_) (fun _ => ?_) <;> (first | (exfalso; omega) | (exfalso; contradiction) | skip)) | (refine Wq.geq rfl rfl (fun _ => ?_) (fun _ => ?_) <;> (first | (exfalso; omega) | (exfalso; contradiction) | skip)) | (refine Wq.eql rfl rfl (fun _ => ?_) (fun _ => ?_) <;> (first | (exfalso; omega) | (exfalso; contradiction) | skip)) | (refine Wq.neq rfl rfl (fun _ => ?_) (fun _ => ?_) <;> (first | (exfalso; omega) | (exfalso; contradiction) | skip)) | (refine Wq.seql rfl rfl (fun _ => ?_) (fun _ => ?_) <;> (first | (exfalso; omega) | (exfalso; contradiction) | skip)) | (refine Wq.sneq rfl rfl (fun _ => ?_) (fun _ => ?_) <;> (first | (exfalso; omega) | (exfalso; contradiction) | skip))); all_goals (try refine Wq.nil ?_))))
      have W14 := kW c814
      refine Wg.oneH rfl rfl rfl rfl rfl (Wl.guardY rfl rfl (Wl.call (kept_spec W14.tx (ht8.keep stableNd (kt c814)) bt.short) rfl ?_))
      rintro _ w15 ⟨rfl, n15⟩
      have c815 : Chg (fun b => lab1 b ≠ none) w8 w15 := Chg.trans c814 n15 fun _ _ e => e.elim
      refine Wl.nil ⟨rfl, c815, ?_⟩
      (repeat' (first | refine Wg.nil ?_ | (refine Wg.qh rfl rfl rfl ?_; (try refine Wq.guardY rfl rfl ?_); (first | refine Wq.moveE (by conv => { lhs; whnf }) ?_ | refine Wq.assignE (by conv => { lhs; whnf }) ?_ | refine Wq.extract rfl rfl ?_ | refine Wq.pickTE rfl (by conv => { lhs; whnf }) ?_ | refine Wq.pickFE rfl (by conv => { lhs; whnf }) ?_ | refine Wq.notB rfl ?_ | refine Wq.lenS rfl ?_ | refine Wq.lenStr rfl ?_ | refine Wq.nilP rfl ?_ | refine Wq.fieldAddr rfl rfl ?_ | refine Wq.add rfl rfl (by omega) (by omega) ?_ | refine Wq.sub rfl rfl (by omega) (by omega) ?_ | refine Wq.mul rfl rfl (by omega) (by omega) ?_ | refine Wq.convI rfl ?_ | (refine Wq.lss rfl rfl (fun _ => ?_) (fun _ => ?_) <;> (first | (exfalso; omega) | (exfalso; contradiction) | skip)) | (refine Wq.leq rfl rfl (fun _ => ?_) (fun _ => ?_) <;> (first | (exfalso; omega) | (exfalso; contradiction) | skip)) | (refine Wq.gtr rfl rfl (fun _ => ?_) (fun _ => ?_) <;> (first | (exfalso; omega) | (exfalso; contradiction) | skip)) | (refine Wq.geq rfl rfl (fun _ => ?_) (fun _ => ?_) <;> (first | (exfalso; omega) | (exfalso; contradiction) | skip)) | (refine Wq.eql rfl rfl (fun _ => ?_) (fun _ => ?_) <;> (first | (exfalso; omega) | (exfalso; contradiction) | skip)) | (refine Wq.neq rfl rfl (fun _ => ?_) (fun _ => ?_) <;> (first | (exfalso; omega) | (exfalso; contradiction) | skip)) | (refine Wq.seql rfl rfl (fun _ => ?_) (fun _ => ?_) <;> (first | (exfalso; omega) | (exfalso; contradiction) | skip)) | (refine Wq.sneq rfl rfl (fun _ => ?_) (fun _ => ?_) <;> (first | (exfalso; omega) | (exfalso; contradiction) | skip))); all_goals (try refine Wq.nil ?_))))
      refine Wg.qh rfl rfl rfl (Wq.guardY rfl rfl (Wq.loadAt (fun w' hw => (kW hw).b6.at) rfl rfl (Wq.nil ?_)))
      refine Wg.qh rfl rfl rfl (Wq.guardY rfl rfl (Wq.loadAt (fun w' hw => (kb hw).at) rfl rfl (Wq.nil ?_)))
      have W15 := kW c815
      refine Wg.oneH rfl rfl rfl rfl rfl (Wl.guardY rfl rfl (Wl.call (keptPiece_spec W15.py (anyN (hn8.keep stableNd (kt c815))) (anyS (hd8.keep (stable_one _) (kt c815))) bp.short) rfl ?_))
      rintro _ w16 ⟨rfl, n16⟩
      have c816 : Chg (fun b => lab1 b ≠ none) w8 w16 := Chg.trans c815 n16 fun _ _ e => e.elim
      refine Wl.nil ⟨rfl, c816, ?_⟩
      (repeat' (first | refine Wg.nil ?_ | (refine Wg.qh rfl rfl rfl ?_; (try refine Wq.guardY rfl rfl ?_); (first | refine Wq.moveE (by conv => { lhs; whnf }) ?_ | refine Wq.assignE (by conv => { lhs; whnf }) ?_ | refine Wq.extract rfl rfl ?_ | refine Wq.pickTE rfl (by conv => { lhs; whnf }) ?_ | refine Wq.pickFE rfl (by conv => { lhs; whnf }) ?_ | refine Wq.notB rfl ?_ | refine Wq.lenS rfl ?_ | refine Wq.lenStr rfl ?_ | refine Wq.nilP rfl ?_ | refine Wq.fieldAddr rfl rfl ?_ | refine Wq.add rfl rfl (by omega) (by omega) ?_ | refine Wq.sub rfl rfl (by omega) (by omega) ?_ | refine Wq.mul rfl rfl (by omega) (by omega) ?_ | refine Wq.convI rfl ?_ | (refine Wq.lss rfl rfl (fun _ => ?_) (fun _ => ?_) <;> (first | (exfalso; omega) | (exfalso; contradiction) | skip)) | (refine Wq.leq rfl rfl (fun _ => ?_) (fun _ => ?_) <;> (first | (exfalso; omega) | (exfalso; contradiction) | skip)) | (refine Wq.gtr rfl rfl (fun _ => ?_) (fun _ => ?_) <;> (first | (exfalso; omega) | (exfalso; contradiction) | skip)) | (refine Wq.geq rfl rfl (fun _ => ?_) (fun _ => ?_) <;> (first | (exfalso; omega) | (exfalso; contradiction) | skip)) | (refine Wq.eql rfl rfl (fun _ => ?_) (fun _ => ?_) <;> (first | (exfalso; omega) | (exfalso; contradiction) | skip)) | (refine Wq.neq rfl rfl (fun _ => ?_) (fun _ => ?_) <;> (first | (exfalso; omega) | (exfalso; contradiction) | skip)) | (refine Wq.seql rfl rfl (fun _ => ?_) (fun _ => ?_) <;> (first | (exfalso; omega) | (exfalso; contradiction) | skip)) | (refine Wq.sneq rfl rfl (fun _ => ?_) (fun _ => ?_) <;> (first | (exfalso; omega) | (exfalso; contradiction) | skip))); all_goals (try refine Wq.nil ?_))))
      exact ⟨rfl, ⟨rfl, rfl, rfl, trivial⟩, c816⟩
    · rintro F9 w9 ⟨hag, c9⟩
      rw [← upds_of_agrees hag]
      simp only [upds]
      (repeat' (first | refine Wc.skip ?_ | refine Wc.condF rfl ?_))
      exact ⟨rfl, ⟨rfl, rfl, trivial⟩, c9⟩
  · rintro F9 w9 ⟨hag, c89⟩
    rw [← upds_of_agrees hag]
    simp only [upds]
    have W9 := kW c89
    have n09 : New w w9 := Chg.trans n08 c89 fun b hb e => by have := (l1w b e).1; omega
    clear hag c89 kW kb kt n1 n2 n3 n02 n03 n04 n05 s05 s1 s4 s5 n6 s6 n7 s7 n57 n8 n58 s8 W8 b18 l1w t18 tw8 t28 sh hlen hpr ht8 hn8 hd8 n08 n4 hx2 hy2 rd5 hR
    have hbl := bt.len
    have hbp := bp.len
    have hl12 := W9.hx
    have hl23 := W9.hy
    have h23 := W9.l23
    have h34 := W9.l34
    have s9 := W9.s4
    have s01 : w.heap.size < w1.heap.size := n23lt
    (repeat' (first | refine Wl.assignE (by conv => { lhs; whnf }) ?_ | refine Wl.nil ?_ | refine Qseq.normal ?_ | refine Wc.seq ?_ | refine Wc.region ?_ | refine Wc.block ?_))
    refine Wc.loop (σ := Nat × List Nd) (fun s => [(5, .slice xa t.length xc), (6, ptrV w3.heap.size), (13, vi s.1)])
      (fun s w' => s.1 ≤ t.length ∧ s.2.length = t.length ∧ TrL w1.heap.size lab w' xa xc s.2 pvs ∧ (∀ j, s.1 ≤ j → s.2[j]? = t[j]?) ∧ (∀ x ∈ s.2, x.props.length ≤ 1500000) ∧ Chg (fun b => lab b ≠ none) w9 w') (fun s => t.length - s.1)
      (0, t) ⟨rfl, rfl, rfl, trivial⟩ ⟨Nat.zero_le _, rfl, W9.tx, fun _ _ => rfl, bt.pr, Chg.refl _ _⟩ ?_
    rintro ⟨i, t'⟩ G w10 ⟨hi, htl, h, hsame, hpl, c10⟩
    dsimp only at hi htl h hsame hpl c10
    simp only [upds]
    (repeat' (first | refine Wl.moveE (by conv => { lhs; whnf }) ?_ | refine Wl.assignE (by conv => { lhs; whnf }) ?_ | refine Wl.nil ?_ | refine Wl.lenS rfl ?_ | refine Qseq.normal ?_ | refine Wc.seq ?_ | refine Wc.region ?_ | refine Wc.block ?_ | refine Wc.skip ?_ | refine Wc.exit ?_ | refine Qseq.exit ?_ | refine Qblk.hit ?_ | refine Qloop.exit ?_ | refine Wc.condT rfl ?_ | refine Wc.condF rfl ?_ | refine Wl.lss rfl rfl (fun _ => ?_) (fun _ => ?_)))
    · obtain ⟨x, hx⟩ := get_lt t' (k := i) (by omega)
      obtain ⟨pv, hpv⟩ := get_lt pvs (k := i) (by rw [h.len]; omega)
      obtain ⟨pa, pc, rfl, ho⟩ := h.pr i x pv hx hpv
      have hxt : t[i]? = some x := by rw [← hsame i (Nat.le_refl _)]; exact hx
      have hxl := hpl x (List.mem_of_getElem? hx)
      have hxt2 := bt.tx x (List.mem_of_getElem? hxt)
      refine Wc.loop (σ := Nat × List Pr) (fun s => [(5, .slice xa t.length xc), (6, ptrV w3.heap.size), (13, vi i), (14, vi s.1)])
        (fun s w' => s.1 ≤ x.props.length ∧ s.2.length = x.props.length ∧ (∀ m, s.1 ≤ m → s.2[m]? = x.props[m]?) ∧ TrL w1.heap.size lab w' xa xc (t'.set i { x with props := s.2 }) pvs ∧ Chg (fun b => lab b ≠ none) w9 w') (fun s => x.props.length - s.1)
        (0, x.props) ⟨rfl, rfl, rfl, rfl, trivial⟩ ⟨Nat.zero_le _, rfl, fun _ _ => rfl, by rw [show ({ x with props := x.props } : Nd) = x from rfl, list_set_self hx]; exact h, c10⟩ ?_
      clear ho
      rintro ⟨k, ps⟩ G w11 ⟨hk, hps, hsp, h11, c11⟩
      dsimp only at hk hps hsp h11 c11
      have hx11 : (t'.set i { x with props := ps })[i]? = some { x with props := ps } := by rw [List.getElem?_set, if_pos rfl, if_pos (by omega)]
      have oz := h11.own.arr
      rw [List.length_set, htl] at oz
      have hz : ((t'.set i { x with props := ps }).zip pvs)[i]? = some ({ x with props := ps }, (pa, x.props.length, pc)) := List.getElem?_zip_eq_some.2 ⟨hx11, hpv⟩
      obtain ⟨pa', pc', e, ho⟩ := h11.pr i _ _ hx11 hpv
      simp only [Prod.mk.injEq] at e
      obtain ⟨rfl, _, rfl⟩ := e
      dsimp only at ho
      simp only [upds]
      (repeat' (first | refine Wl.moveE (by conv => { lhs; whnf }) ?_ | refine Wc.seq ?_ | refine Wc.region ?_))
      refine Wl.idxAddr (oz.rd (mono_flat ndV)) rfl rfl (by omega) hz fun b o cs hl hR hat => ?_
      obtain rfl : cs = ndV _ := hR
      (repeat' (refine Wl.fieldAddr rfl rfl ?_))
      refine Wl.load1 (u := .slice pa x.props.length pc) rfl (hat.get 2 rfl) ?_
      clear hat
      (repeat' (first | refine Wl.moveE (by conv => { lhs; whnf }) ?_ | refine Wl.assignE (by conv => { lhs; whnf }) ?_ | refine Wl.nil ?_ | refine Wl.lenS rfl ?_ | refine Qseq.normal ?_ | refine Wc.seq ?_ | refine Wc.region ?_ | refine Wc.block ?_ | refine Wc.skip ?_ | refine Wc.exit ?_ | refine Qseq.exit ?_ | refine Qblk.normal ?_ | refine Qblk.hit ?_ | refine Qloop.exit ?_ | refine Wc.condT rfl ?_ | refine Wc.condF rfl ?_ | refine Wl.add rfl rfl (by omega) (by omega) ?_ | refine Wl.lss rfl rfl (fun _ => ?_) (fun _ => ?_)))
      · obtain ⟨q, hq⟩ := get_lt ps (k := k) (by omega)
        have hqx : x.props[k]? = some q := by rw [← hsp k (Nat.le_refl _)]; exact hq
        have hql := (hxt2 q (List.mem_of_getElem? hqx)).2
        have hq' : (ps ++ [mkP])[k]? = some q := by rw [List.getElem?_append_left (by omega)]; exact hq
        have hos := own_short ho rfl
        rw [hps] at hos
        obtain ⟨g, gc, ge, _⟩ := ho.blk (by simp)
        simp only [Value.slice.injEq] at ge
        obtain ⟨rfl, _, rfl⟩ := ge
        refine Wc.regionT rfl (by kernel_rfl) (New w11) (Chg.drew _ _) ?_
        intro w12 n12
        (repeat' (refine Wt.quiet rfl (Wq.moveE (by conv => { lhs; whnf }) (Wq.nil ?_))))
        refine Wt.quiet rfl (Wq.idxAddr (oz.rd (mono_flat ndV)) (fun w' hw => New.keep hw) rfl rfl (by omega) hz fun b o cs hl hR hat => Wq.nil ?_)
        obtain rfl : cs = ndV _ := hR
        (repeat' (refine Wt.quiet rfl (Wq.fieldAddr rfl rfl (Wq.nil ?_))))
        refine Wt.quiet rfl (Wq.load1 (u := .slice (some ⟨g, 0, none⟩) x.props.length pc) rfl (fun w' hw => (hat w' hw).get 2 rfl) (Wq.nil ?_))
        clear hat
        (repeat' (refine Wt.quiet rfl (Wq.moveE (by conv => { lhs; whnf }) (Wq.nil ?_))))
        refine Wt.quiet rfl (Wq.idxAddr (oz.rd (mono_flat ndV)) (fun w' hw => New.keep hw) rfl rfl (by omega) hz fun b o cs hl hR hat => Wq.nil ?_)
        obtain rfl : cs = ndV _ := hR
        (repeat' (refine Wt.quiet rfl (Wq.fieldAddr rfl rfl (Wq.nil ?_))))
        refine Wt.quiet rfl (Wq.load1 (u := .slice (some ⟨g, 0, none⟩) x.props.length pc) rfl (fun w' hw => (hat w' hw).get 2 rfl) (Wq.nil ?_))
        clear hat
        (repeat' (refine Wt.quiet rfl (Wq.moveE (by conv => { lhs; whnf }) (Wq.nil ?_))))
        refine Wt.quiet rfl (Wq.idxAddr (hos.rd (mono_flat pC)) (fun w' hw => New.keep hw) rfl rfl (by omega) hq fun b o cs hl hR hat => Wq.nil ?_)
        obtain rfl : cs = pC q := hR
        (repeat' (refine Wt.quiet rfl (Wq.fieldAddr rfl rfl (Wq.nil ?_))))
        refine Wt.quiet rfl (Wq.load1 (u := vs q.2) rfl (fun w' hw => (hat w' hw).get 1 rfl) (Wq.nil ?_))
        clear hat
        refine Wt.quiet rfl (Wq.sadd (a := q.2) (b := [43]) rfl rfl (by simp only [List.length_singleton]; omega) (Wq.nil ?_))
        refine Wt.quiet rfl (Wq.idxP rfl rfl (by omega) (by omega) (Wq.nil ?_))
        (repeat' (refine Wt.quiet rfl (Wq.fieldAddr rfl rfl (Wq.nil ?_))))
        refine Wt.last rfl (Wl.storeOwnF (f := pC) (sz := 2) (o := 1) (j := k) (p := q) (q := (q.1, q.2 ++ [43])) (u := vs (q.2 ++ [43])) (cap := pc) (fun _ => rfl) (by omega) rfl hq' rfl (ho.new plainPr n12) (by rw [List.length_append]; rfl) (by show Value.pointer (some ⟨g, 0 + (k : Int).toNat * 2 + 1, none⟩) = _; simp) rfl fun w13 o13 c13 => ?_)
        (repeat' (first | refine Wl.moveE (by conv => { lhs; whnf }) ?_ | refine Wl.assignE (by conv => { lhs; whnf }) ?_ | refine Wl.nil ?_ | refine Qseq.normal ?_ | refine Wc.region ?_ | refine Qblk.normal ?_ | refine Wl.add rfl rfl (by omega) (by omega) ?_))
        rw [List.set_append_left _ _ (by omega)] at o13
        have c13' : Chg (fun b => lab b = some (i + 1)) w12 w13 := c13.mono fun b _ e => (ho.lt e).1
        have h13 := (h11.new n12).setProps hx11 hpv (ps := ps.set k (q.1, q.2 ++ [43])) c13' ⟨_, _, by rw [List.length_set, hps], by rw [List.length_set]; exact o13⟩
        rw [List.set_set] at h13
        exact Qloop.normal (k + 1, ps.set k (q.1, q.2 ++ [43])) ⟨rfl, rfl, rfl, rfl, trivial⟩ ⟨by dsimp only; omega, by simpa using hps, fun m hm => by
          dsimp only at hm ⊢
          rw [List.getElem?_set, if_neg (by omega)]
          exact hsp m (by omega), h13, Chg.trans (Chg.trans c11 n12 fun _ _ e => e.elim) c13' fun b _ e => by rw [e]; simp⟩ (by dsimp only; omega)
      · skip
        exact Qloop.normal (i + 1, t'.set i { x with props := ps }) ⟨rfl, rfl, rfl, trivial⟩ ⟨by dsimp only; omega, by simpa using htl, h11, fun j hj => by
          dsimp only at hj ⊢
          rw [List.getElem?_set, if_neg (by omega)]
          exact hsame j (by omega), fun y hy => by
          rcases List.mem_or_eq_of_mem_set hy with hy | rfl
          · exact hpl y hy
          · dsimp only; omega, c11⟩ (by dsimp only; omega)
    · have hlab : ∀ b, lab b ≠ none → b < w2.heap.size := fun b e => by
        cases hq : lab b with
        | none => exact absurd hq e
        | some q => exact (hl12 b q hq).2
      have py10 := W9.py.chg c10 (fun b hb e => by
        cases hq : laby b with
        | none => rfl
        | some q => have := (hl23 b q hq).1; have := hlab b e; omega) (fun b e1 e2 => by have := (W9.hd b e1).2.2; have := hlab b e2; omega)
      have b10 := W9.b6.chg c10 (fun e => by have := hlab _ e; omega)
      have hyl : ∀ b, laby b ≠ none → w2.heap.size ≤ b ∧ b < w3.heap.size := fun b e => by
        cases hq : laby b with
        | none => exact absurd hq e
        | some q => exact hl23 b q hq
      have hdn := W9.hd
      have n010 : New w w10 := Chg.trans n09 c10 fun b hb e => by
        cases hq : lab b with
        | none => exact absurd hq e
        | some q => have := (hl12 b q hq).1; omega
      have s10 := c10.size
      clear W9 c10 hsame bt
      refine Wc.loop (σ := Nat × List Nd) (fun s => [(5, .slice xa t.length xc), (6, ptrV w3.heap.size), (15, vi s.1)])
        (fun s w' => s.1 ≤ p.nodes.length ∧ s.2.length = p.nodes.length ∧ TrL w2.heap.size laby w' ya yc s.2 qvs ∧ (∀ x ∈ s.2, x.props.length ≤ 1500000) ∧ Chg (fun b => laby b ≠ none) w10 w') (fun s => p.nodes.length - s.1)
        (0, p.nodes) ⟨rfl, rfl, rfl, trivial⟩ ⟨Nat.zero_le _, rfl, py10.tl, bp.pr, Chg.refl _ _⟩ ?_
      rintro ⟨i2, n'⟩ G w11 ⟨hi2, hnl, hn11, hpl2, c11⟩
      dsimp only at hi2 hnl hn11 hpl2 c11
      have b11 := b10.chg c11 (fun e => by have := (hyl _ e).2; omega)
      simp only [upds]
      (repeat' (first | refine Wl.moveE (by conv => { lhs; whnf }) ?_ | refine Wc.seq ?_ | refine Wc.region ?_ | refine Wl.fieldAddr rfl rfl ?_))
      refine Wl.load1 rfl (b11.cell (o := 1) rfl) ?_
      (repeat' (first | refine Wl.assignE (by conv => { lhs; whnf }) ?_ | refine Wl.nil ?_ | refine Wl.lenS rfl ?_ | refine Qseq.normal ?_ | refine Wc.seq ?_ | refine Wc.region ?_ | refine Wc.block ?_ | refine Wc.skip ?_ | refine Wc.exit ?_ | refine Qseq.exit ?_ | refine Qblk.hit ?_ | refine Qloop.exit ?_ | refine Wc.condT rfl ?_ | refine Wc.condF rfl ?_ | refine Wl.lss rfl rfl (fun _ => ?_) (fun _ => ?_)))
      · obtain ⟨x, hx⟩ := get_lt n' (k := i2) (by omega)
        obtain ⟨pv, hpv⟩ := get_lt qvs (k := i2) (by rw [hn11.len]; omega)
        obtain ⟨pa, pc, rfl, ho⟩ := hn11.pr i2 x pv hx hpv
        have hxl := hpl2 x (List.mem_of_getElem? hx)
        refine Wc.loop (σ := Nat × List Pr) (fun s => [(5, .slice xa t.length xc), (6, ptrV w3.heap.size), (15, vi i2), (16, vi s.1)])
          (fun s w' => s.1 ≤ x.props.length ∧ s.2.length = x.props.length ∧ TrL w2.heap.size laby w' ya yc (n'.set i2 { x with props := s.2 }) qvs ∧ Chg (fun b => laby b ≠ none) w10 w') (fun s => x.props.length - s.1)
          (0, x.props) ⟨rfl, rfl, rfl, rfl, trivial⟩ ⟨Nat.zero_le _, rfl, by rw [show ({ x with props := x.props } : Nd) = x from rfl, list_set_self hx]; exact hn11, c11⟩ ?_
        clear ho b11
        rintro ⟨k, ps⟩ G w12 ⟨hk, hps, h12, c12⟩
        dsimp only at hk hps h12 c12
        have b12 := b10.chg c12 (fun e => by have := (hyl _ e).2; omega)
        have hx12 : (n'.set i2 { x with props := ps })[i2]? = some { x with props := ps } := by rw [List.getElem?_set, if_pos rfl, if_pos (by omega)]
        have oz := h12.own.arr
        rw [List.length_set, hnl] at oz
        have hz : ((n'.set i2 { x with props := ps }).zip qvs)[i2]? = some ({ x with props := ps }, (pa, x.props.length, pc)) := List.getElem?_zip_eq_some.2 ⟨hx12, hpv⟩
        obtain ⟨pa', pc', e, ho⟩ := h12.pr i2 _ _ hx12 hpv
        simp only [Prod.mk.injEq] at e
        obtain ⟨rfl, _, rfl⟩ := e
        dsimp only at ho
        simp only [upds]
        (repeat' (first | refine Wl.moveE (by conv => { lhs; whnf }) ?_ | refine Wc.seq ?_ | refine Wc.region ?_ | refine Wl.fieldAddr rfl rfl ?_))
        refine Wl.load1 rfl (b12.cell (o := 1) rfl) ?_
        (repeat' (refine Wl.moveE (by conv => { lhs; whnf }) ?_))
        refine Wl.idxAddr (oz.rd (mono_flat ndV)) rfl rfl (by omega) hz fun b o cs hl hR hat => ?_
        obtain rfl : cs = ndV _ := hR
        (repeat' (refine Wl.fieldAddr rfl rfl ?_))
        refine Wl.load1 (u := .slice pa x.props.length pc) rfl (hat.get 2 rfl) ?_
        clear hat
        (repeat' (first | refine Wl.moveE (by conv => { lhs; whnf }) ?_ | refine Wl.assignE (by conv => { lhs; whnf }) ?_ | refine Wl.nil ?_ | refine Wl.lenS rfl ?_ | refine Qseq.normal ?_ | refine Wc.seq ?_ | refine Wc.region ?_ | refine Wc.block ?_ | refine Wc.skip ?_ | refine Wc.exit ?_ | refine Qseq.exit ?_ | refine Qblk.normal ?_ | refine Qblk.hit ?_ | refine Qloop.exit ?_ | refine Wc.condT rfl ?_ | refine Wc.condF rfl ?_ | refine Wl.fieldAddr rfl rfl ?_ | refine Wl.add rfl rfl (by omega) (by omega) ?_ | refine Wl.lss rfl rfl (fun _ => ?_) (fun _ => ?_)))
        · obtain ⟨q, hq⟩ := get_lt ps (k := k) (by omega)
          have hq' : (ps ++ [mkP])[k]? = some q := by rw [List.getElem?_append_left (by omega)]; exact hq
          obtain ⟨g, gc, ge, _⟩ := ho.blk (by simp)
          simp only [Value.slice.injEq] at ge
          obtain ⟨rfl, _, rfl⟩ := ge
          refine Wl.load1 rfl (b12.cell (o := 1) rfl) ?_
          (repeat' (refine Wl.moveE (by conv => { lhs; whnf }) ?_))
          refine Wl.idxAddr (oz.rd (mono_flat ndV)) rfl rfl (by omega) hz fun b o cs hl hR hat => ?_
          obtain rfl : cs = ndV _ := hR
          (repeat' (refine Wl.fieldAddr rfl rfl ?_))
          refine Wl.load1 (u := .slice (some ⟨g, 0, none⟩) x.props.length pc) rfl (hat.get 2 rfl) ?_
          clear hat
          (repeat' (refine Wl.moveE (by conv => { lhs; whnf }) ?_))
          refine Wl.idxP rfl rfl (by omega) (by omega) ?_
          (repeat' (refine Wl.fieldAddr rfl rfl ?_))
          refine Wl.storeOwnF (f := pC) (sz := 2) (o := 1) (j := k) (p := q) (q := (q.1, [111, 116, 104, 101, 114])) (u := vs [111, 116, 104, 101, 114]) (cap := pc) (fun _ => rfl) (by omega) rfl hq' rfl ho (by rw [List.length_append]; rfl) (by show Value.pointer (some ⟨g, 0 + (k : Int).toNat * 2 + 1, none⟩) = _; simp) rfl fun w13 o13 c13 => ?_
          (repeat' (first | refine Wl.moveE (by conv => { lhs; whnf }) ?_ | refine Wl.assignE (by conv => { lhs; whnf }) ?_ | refine Wl.nil ?_ | refine Qseq.normal ?_ | refine Wc.region ?_ | refine Qblk.normal ?_ | refine Wl.add rfl rfl (by omega) (by omega) ?_))
          rw [List.set_append_left _ _ (by omega)] at o13
          have c13' : Chg (fun b => laby b = some (i2 + 1)) w12 w13 := c13.mono fun b _ e => (ho.lt e).1
          have h13 := h12.setProps hx12 hpv (ps := ps.set k (q.1, [111, 116, 104, 101, 114])) c13' ⟨_, _, by rw [List.length_set, hps], by rw [List.length_set]; exact o13⟩
          rw [List.set_set] at h13
          exact Qloop.normal (k + 1, ps.set k (q.1, [111, 116, 104, 101, 114])) ⟨rfl, rfl, rfl, rfl, trivial⟩ ⟨by dsimp only; omega, by simpa using hps, h13, Chg.trans c12 c13' fun b _ e => by rw [e]; simp⟩ (by dsimp only; omega)
        · exact Qloop.normal (i2 + 1, n'.set i2 { x with props := ps }) ⟨rfl, rfl, rfl, trivial⟩ ⟨by dsimp only; omega, by simpa using hnl, h12, fun y hy => by
            rcases List.mem_or_eq_of_mem_set hy with hy | rfl
            · exact hpl2 y hy
            · dsimp only; omega, c12⟩ (by dsimp only; omega)
      · have X11 := h.chg c11 (fun b hb e => by
          cases hq : lab b with
          | none => rfl
          | some q => have := (hl12 b q hq).2; have := (hyl b e).1; omega)
        have dl11 := (own_short py10.dl rfl).chg (plain_one _) c11 (fun b e1 e2 => by
          have e1' : (Value.slice da (p.drop.length + 1) dc).ownBlock = some b := by cases da <;> exact e1
          exact e2 (hdn b e1').2.1)
        have n011 : New w w11 := Chg.trans n010 c11 fun b hb e => by have := (hyl b e).1; have := n2w; omega
        have rx := anyN X11.own.rd
        have ry := anyN hn11.own.rd
        have rd := anyS (dl11.rd (mono_one _))
        rw [htl] at rx
        rw [hnl] at ry
        clear py10 b10 hdn n010 X11 hn11 dl11 c11 h hlab hyl
        refine Wc.regionT rfl (by kernel_rfl) (New w11) (Chg.drew _ _) ?_
        intro w12 n12
        (repeat' (refine Wt.quiet rfl (Wq.moveE (by conv => { lhs; whnf }) (Wq.nil ?_))))
        refine Wt.chain rfl (Wl.call (Twin_spec (rx.keep stableNd n12.keep) (by omega) (fun x hx => by have := hpl x hx; omega)) rfl ?_)
        rintro v13 w13 ⟨lab13, pvs13, o13, n13⟩
        have n1113 := New.trans n12 n13
        refine Wl.nil ⟨rfl, n1113, ?_⟩
        refine Wt.quiet rfl (Wq.loadAt (fun w' hw => (b11.chg hw id).at) rfl rfl (Wq.nil ?_))
        refine Wt.chain rfl (Wl.call (TwinPiece_spec (p := { p with nodes := n' }) (ry.keep stableNd n1113.keep) (rd.keep (stable_one _) n1113.keep) (by dsimp only; omega) (fun x hx => by have := hpl2 x hx; omega) (by dsimp only; omega)) rfl ?_)
        rintro r14 w14 ⟨⟨nv14, dv14, lab14, pvs14, rfl, o14, d14⟩, n14⟩
        have n1114 := New.trans n1113 n14
        refine Wl.nil ⟨rfl, n1114, ?_⟩
        refine Wt.chain rfl (Wl.call (LayR_spec (p := { p with nodes := n' }) (anyN (o13.new n14).rd) (anyN o14.rd) (anyS (d14.rd (mono_one _)))) rfl ?_)
        rintro _ w15 ⟨wv15, wvs15, rfl, n15, tw15⟩
        rw [layRM_M] at tw15 ⊢
        have n1115 := New.trans n1114 n15
        refine Wl.nil ⟨rfl, n1115, ?_⟩
        (repeat' (first | refine Wt.nil ?_ | refine Wt.quiet rfl (Wq.moveE (by conv => { lhs; whnf }) (Wq.nil ?_)) | refine Wt.quiet rfl (Wq.assignE (by conv => { lhs; whnf }) (Wq.nil ?_)) | refine Wt.quiet rfl (Wq.extract rfl rfl (Wq.nil ?_))))
        have b15 := b11.chg n1115 id
        (repeat' (first | refine Wl.moveE (by conv => { lhs; whnf }) ?_ | refine Qseq.normal ?_ | refine Wc.seq ?_ | refine Wc.region ?_))
        refine Wl.loadB b15 rfl rfl ?_
        refine Wl.call (Lay_spec (p := { p with nodes := n' }) (rx.keep stableNd n1115.keep) (ry.keep stableNd n1115.keep) (rd.keep (stable_one _) n1115.keep) (by dsimp only; omega)) rfl ?_
        rintro _ w16 ⟨v16, rfl, n16, lab16, pvs16, t16⟩
        obtain ⟨sh, _, _⟩ := layM_small (t := t') (p := { p with nodes := n' })
        (repeat' (first | refine Wl.moveE (by conv => { lhs; whnf }) ?_ | refine Wl.assignE (by conv => { lhs; whnf }) ?_ | refine Wl.nil ?_ | refine Wl.extract rfl rfl ?_ | refine Wl.guardY rfl rfl ?_ | refine Qseq.normal ?_ | refine Wc.seq ?_ | refine Wc.region ?_ | (refine Wl.eql rfl rfl (fun _ => ?_) (fun _ => ?_) <;> (first | (exfalso; omega) | skip))))
        refine Wl.call (Same_spec t16.rd (tw15.rd.keep stableNd n16.keep) sh) rfl ?_
        rintro _ w17 ⟨rfl, n17⟩
        (repeat' (first | refine Wl.assignE (by conv => { lhs; whnf }) ?_ | refine Wl.nil ?_ | refine Wl.pickTE rfl (by conv => { lhs; whnf }) ?_ | refine Qseq.normal ?_ | refine Wc.ret ?_))
        exact Qfn.ret1 rfl rfl ⟨_, rfl, rfl, New.trans n011 (New.trans n1115 (New.trans n16 n17))⟩
end Go.Proofs.YtjpebmgllfiloaaDoor

namespace Go.Proofs.YtjpebmgllfiloaaDoor
open Go Wk

theorem bulk_one {H : Type} (d : DataW H) : 1 ≤ Rows.uptoBulk d := by
  cases d with
  | lit l => cases l <;> simp [Rows.uptoBulk]
  | _ => simp [Rows.uptoBulk]
theorem bulk_len {H : Type} (l : List (DataW H)) : l.length ≤ Rows.uptoBulkAll l := by
  induction l with
  | nil => simp [Rows.uptoBulkAll]
  | cons x r ih => have := bulk_one x; simp only [Rows.uptoBulkAll, List.length_cons]; omega
theorem bulk_sl {α : Type} {D : Dat α} {H : Type} {xs : List α} {d : DataW H} (h : datSl D H xs d) : xs.length ≤ Rows.uptoBulk d := by
  rcases h with ⟨rfl, rfl⟩ | ⟨es, sp, rfl, hl, _⟩
  · simp
  · have := bulk_len es
    simp only [Rows.uptoBulk]
    omega
/-- A measure of the elements, added up. -/
theorem bulk_sum {α : Type} {D : Dat α} {H : Type} (μ : α → Nat) (hμ : ∀ x d, D H x d → μ x ≤ Rows.uptoBulk d) : ∀ (xs : List α) (es : List (DataW H)), es.length = xs.length → (∀ (i : Nat) (x : α), xs[i]? = some x → ∃ y, es[i]? = some y ∧ D H x y) → (xs.map μ).sum ≤ Rows.uptoBulkAll es
  | [], es, _, _ => by simp
  | x :: xs, [], h, _ => by simp at h
  | x :: xs, e :: es, h, hd => by
    obtain ⟨y, hy, hD⟩ := hd 0 x rfl
    simp at hy
    subst hy
    have ih := bulk_sum μ hμ xs es (by simpa using h) (fun i x hx => by
      obtain ⟨y, hy, hD⟩ := hd (i + 1) x (by simpa using hx)
      exact ⟨y, by simpa using hy, hD⟩)
    have := hμ x e hD
    simp only [List.map_cons, List.sum_cons, Rows.uptoBulkAll]
    omega
theorem bulk_slsum {α : Type} {D : Dat α} {H : Type} {xs : List α} {d : DataW H} (μ : α → Nat) (hμ : ∀ x d, D H x d → μ x ≤ Rows.uptoBulk d) (h : datSl D H xs d) : (xs.map μ).sum ≤ Rows.uptoBulk d := by
  rcases h with ⟨rfl, rfl⟩ | ⟨es, sp, rfl, hl, hd⟩
  · simp
  · have := bulk_sum μ hμ xs es hl hd
    simp only [Rows.uptoBulk]
    omega
theorem bulk_str {H : Type} (l : List UInt8) (d : DataW H) (h : datStr H l d) : l.length + 1 ≤ Rows.uptoBulk d := by
  obtain ⟨rfl, _⟩ := h
  simp [Rows.uptoBulk]
theorem dat_mem {α : Type} {D : Dat α} {H : Type} {xs : List α} {d : DataW H} (h : datSl D H xs d) {x : α} (hx : x ∈ xs) : ∃ y, D H x y := by
  obtain ⟨i, hi⟩ := List.mem_iff_getElem?.1 hx
  rcases h with ⟨rfl, rfl⟩ | ⟨es, sp, rfl, hl, hd⟩
  · simp at hi
  · obtain ⟨y, _, hD⟩ := hd i x hi
    exact ⟨y, hD⟩
end Go.Proofs.YtjpebmgllfiloaaDoor

namespace Go.Proofs.YtjpebmgllfiloaaDoor
open Go Wk Go.ChangeShapes

theorem cInt : Tryd.prog.cellsOf 3 = 1 := by kernel_rfl
theorem cStr : Tryd.prog.cellsOf 9 = 1 := by kernel_rfl
theorem cPrs : Tryd.prog.cellsOf 35 = 1 := by kernel_rfl
theorem cNds : Tryd.prog.cellsOf 22 = 1 := by kernel_rfl
theorem cStrs : Tryd.prog.cellsOf 23 = 1 := by kernel_rfl
theorem cPr : Tryd.prog.cellsOf 39 = 2 := by kernel_rfl
theorem cNd : Tryd.prog.cellsOf 37 = 3 := by kernel_rfl
theorem cPc : Tryd.prog.cellsOf 25 = 3 := by kernel_rfl

theorem len2 {α : Type} {l : List α} (h : l.length = 2) : ∃ a b, l = [a, b] := by
  match l, h with
  | [a, b], _ => exact ⟨a, b, rfl⟩
theorem len3 {α : Type} {l : List α} (h : l.length = 3) : ∃ a b c, l = [a, b, c] := by
  match l, h with
  | [a, b, c], _ => exact ⟨a, b, c, rfl⟩
def datPr : Dat Pr := fun H x d => ∃ d0 d1, d = .agg [d0, d1] ∧ datStr H x.1 d0 ∧ datStr H x.2 d1
def datNd : Dat Nd := fun H x d => ∃ d0 d1 d2, d = .agg [d0, d1, d2] ∧ datInt .i64 H x.parent d0 ∧ datStr H x.name d1 ∧ datSl datPr H x.props d2
def datPc : Dat Pc := fun H x d => ∃ d0 d1 d2, d = .agg [d0, d1, d2] ∧ datStr H x.target d0 ∧ datSl datNd H x.nodes d1 ∧ datSl datStr H x.drop d2
def rPc : Rel Pc := fun Pb w p cs => RdPc Pb w cs p
theorem opens_pr : Opens Tryd.prog 39 rPr datPr := by
  intro H enc w fuel cs d ps h
  obtain ⟨xs, n, rfl, hx, hl, hlen, hf⟩ := DataW.trod_struct Tryd.underlying39 h
  rw [cPr] at hl
  obtain ⟨c0, c1, rfl⟩ := len2 hl
  obtain ⟨y0, y1, rfl⟩ := len2 (show xs.length = 2 from hlen)
  have e0 : DataW.trod enc Tryd.prog w 0 (fun _ => true) true n 9 (([c0, c1].drop 0).take (Tryd.prog.cellsOf 9)) = some y0 := hf 0 _ rfl
  rw [cStr] at e0
  have e1 : DataW.trod enc Tryd.prog w 0 (fun _ => true) true n 9 (([c0, c1].drop 1).take (Tryd.prog.cellsOf 9)) = some y1 := hf 1 _ rfl
  rw [cStr] at e1
  cases hx
  obtain ⟨s0, r0, q0⟩ := opens_str Tryd.underlying9 H enc w n _ _ _ e0
  obtain ⟨s1, r1, q1⟩ := opens_str Tryd.underlying9 H enc w n _ _ _ e1
  have r0' : [c0] = [vs s0] := r0 (fun _ => True) (fun _ _ => trivial)
  have r1' : [c1] = [vs s1] := r1 (fun _ => True) (fun _ _ => trivial)
  cases r0'
  cases r1'
  exact ⟨(s0, s1), fun _ _ => rfl, _, _, rfl, q0, q1⟩
theorem opens_prs : Opens Tryd.prog 35 (rSl rPr 2) (datSl datPr) := opens_slice Tryd.underlying35 cPr (by decide) opens_pr
theorem opens_nd : Opens Tryd.prog 37 rNd datNd := by
  intro H enc w fuel cs d ps h
  obtain ⟨xs, n, rfl, hx, hl, hlen, hf⟩ := DataW.trod_struct Tryd.underlying37 h
  rw [cNd] at hl
  obtain ⟨c0, c1, c2, rfl⟩ := len3 hl
  obtain ⟨y0, y1, y2, rfl⟩ := len3 (show xs.length = 3 from hlen)
  have e0 : DataW.trod enc Tryd.prog w 0 (fun _ => true) true n 3 (([c0, c1, c2].drop 0).take (Tryd.prog.cellsOf 3)) = some y0 := hf 0 _ rfl
  rw [cInt] at e0
  have e1 : DataW.trod enc Tryd.prog w 0 (fun _ => true) true n 9 (([c0, c1, c2].drop 1).take (Tryd.prog.cellsOf 9)) = some y1 := hf 1 _ rfl
  rw [cStr] at e1
  have e2 : DataW.trod enc Tryd.prog w 0 (fun _ => true) true n 35 (([c0, c1, c2].drop 2).take (Tryd.prog.cellsOf 35)) = some y2 := hf 2 _ rfl
  rw [cPrs] at e2
  cases hx
  obtain ⟨s0, r0, q0⟩ := opens_int Tryd.underlying3 H enc w n _ _ _ e0
  obtain ⟨s1, r1, q1⟩ := opens_str Tryd.underlying9 H enc w n _ _ _ e1
  obtain ⟨s2, r2, q2⟩ := opens_prs H enc w n _ _ _ e2
  have r0' : [c0] = [vi s0] := r0 (fun _ => True) (fun _ _ => trivial)
  have r1' : [c1] = [vs s1] := r1 (fun _ => True) (fun _ _ => trivial)
  cases r0'
  cases r1'
  refine ⟨⟨s0, s1, s2⟩, fun Pb hP => ?_, _, _, _, rfl, q0, q1, q2⟩
  obtain ⟨v, hv, hr⟩ := r2 Pb fun p hp => hP p (by simp; exact .inr (.inr hp))
  have hv' : [c2] = [v] := hv
  cases hv'
  exact ⟨c2, rfl, hr⟩
theorem opens_nds : Opens Tryd.prog 22 (rSl rNd 3) (datSl datNd) := opens_slice Tryd.underlying22 cNd (by decide) opens_nd
theorem opens_strs : Opens Tryd.prog 23 (rSl (one vs) 1) (datSl datStr) := opens_slice Tryd.underlying23 cStr (by decide) (opens_str Tryd.underlying9)
theorem opens_pc : Opens Tryd.prog 25 rPc datPc := by
  intro H enc w fuel cs d ps h
  obtain ⟨xs, n, rfl, hx, hl, hlen, hf⟩ := DataW.trod_struct Tryd.underlying25 h
  rw [cPc] at hl
  obtain ⟨c0, c1, c2, rfl⟩ := len3 hl
  obtain ⟨y0, y1, y2, rfl⟩ := len3 (show xs.length = 3 from hlen)
  have e0 : DataW.trod enc Tryd.prog w 0 (fun _ => true) true n 9 (([c0, c1, c2].drop 0).take (Tryd.prog.cellsOf 9)) = some y0 := hf 0 _ rfl
  rw [cStr] at e0
  have e1 : DataW.trod enc Tryd.prog w 0 (fun _ => true) true n 22 (([c0, c1, c2].drop 1).take (Tryd.prog.cellsOf 22)) = some y1 := hf 1 _ rfl
  rw [cNds] at e1
  have e2 : DataW.trod enc Tryd.prog w 0 (fun _ => true) true n 23 (([c0, c1, c2].drop 2).take (Tryd.prog.cellsOf 23)) = some y2 := hf 2 _ rfl
  rw [cStrs] at e2
  cases hx
  obtain ⟨s0, r0, q0⟩ := opens_str Tryd.underlying9 H enc w n _ _ _ e0
  obtain ⟨s1, r1, q1⟩ := opens_nds H enc w n _ _ _ e1
  obtain ⟨s2, r2, q2⟩ := opens_strs H enc w n _ _ _ e2
  have r0' : [c0] = [vs s0] := r0 (fun _ => True) (fun _ _ => trivial)
  cases r0'
  refine ⟨⟨s0, s1, s2⟩, fun Pb hP => ?_, _, _, _, rfl, q0, q1, q2⟩
  obtain ⟨v1, hv1, hr1⟩ := r1 Pb fun p hp => hP p (by simp; exact .inr (.inl hp))
  obtain ⟨v2, hv2, hr2⟩ := r2 Pb fun p hp => hP p (by simp; exact .inr (.inr hp))
  have hv1' : [c1] = [v1] := hv1
  have hv2' : [c2] = [v2] := hv2
  cases hv1'
  cases hv2'
  exact ⟨c1, c2, rfl, hr1, hr2⟩
theorem opens_pcs : Opens Tryd.prog 48 (rSl rPc 3) (datSl datPc) := opens_slice Tryd.underlying48 cPc (by decide) opens_pc
theorem bulk_pc {H : Type} (x : Pc) (d : DataW H) (h : datPc H x d) : x.target.length ≤ Rows.uptoBulk d ∧ x.nodes.length ≤ Rows.uptoBulk d ∧ x.drop.length ≤ Rows.uptoBulk d := by
  obtain ⟨d0, d1, d2, rfl, h0, h1, h2⟩ := h
  have b0 := bulk_str x.target d0 h0
  have b1 := bulk_sl h1
  have b2 := bulk_sl h2
  simp only [Rows.uptoBulk, Rows.uptoBulkAll]
  omega
theorem sum_ge {l : List Nat} {x : Nat} (h : x ∈ l) : x ≤ l.sum := by
  induction l with
  | nil => simp at h
  | cons y r ih =>
    simp only [List.sum_cons]
    rcases List.mem_cons.1 h with rfl | h
    · omega
    · have := ih h; omega
theorem bulk_pcs {H : Type} {xs : List Pc} {d : DataW H} (h : datSl datPc H xs d) : ∀ p ∈ xs, p.target.length ≤ Rows.uptoBulk d := fun p hp => by
  have h1 := bulk_slsum (fun x : Pc => x.target.length) (fun x d h => (bulk_pc x d h).1) h
  have h2 := sum_ge (List.mem_map.2 ⟨p, hp, rfl⟩ : (fun x : Pc => x.target.length) p ∈ xs.map fun x : Pc => x.target.length)
  exact Nat.le_trans h2 h1
end Go.Proofs.YtjpebmgllfiloaaDoor

namespace Go.Proofs.YtjpebmgllfiloaaDoor
open Go Wk

theorem bulk_pr {H : Type} (x : Pr) (d : DataW H) (h : datPr H x d) : x.1.length + x.2.length ≤ Rows.uptoBulk d := by
  obtain ⟨d0, d1, rfl, h0, h1⟩ := h
  have b0 := bulk_str x.1 d0 h0
  have b1 := bulk_str x.2 d1 h1
  simp only [Rows.uptoBulk, Rows.uptoBulkAll]
  omega
theorem bulk_nd1 {H : Type} (x : Nd) (d : DataW H) (h : datNd H x d) : x.props.length ≤ Rows.uptoBulk d := by
  obtain ⟨d0, d1, d2, rfl, h0, h1, h2⟩ := h
  have := bulk_sl h2
  simp only [Rows.uptoBulk, Rows.uptoBulkAll]
  omega
theorem bulk_nd2 {H : Type} (x : Nd) (d : DataW H) (h : datNd H x d) : (x.props.map fun p : Pr => p.1.length + p.2.length).sum ≤ Rows.uptoBulk d := by
  obtain ⟨d0, d1, d2, rfl, h0, h1, h2⟩ := h
  have := bulk_slsum (fun p : Pr => p.1.length + p.2.length) bulk_pr h2
  simp only [Rows.uptoBulk, Rows.uptoBulkAll]
  omega
theorem bd_nds {H : Type} {t : List Nd} {d : DataW H} (h : datSl datNd H t d) (hb : Rows.uptoBulk d ≤ 1048576) : Bd t := by
  refine ⟨?_, fun x hx => ?_, fun x hx p hp => ?_⟩
  · have := bulk_sl h; omega
  · have h1 := bulk_slsum (fun x : Nd => x.props.length) bulk_nd1 h
    have h2 := sum_ge (List.mem_map.2 ⟨x, hx, rfl⟩ : (fun x : Nd => x.props.length) x ∈ t.map fun x : Nd => x.props.length)
    dsimp only at h2; omega
  · have h1 := bulk_slsum (fun x : Nd => (x.props.map fun p : Pr => p.1.length + p.2.length).sum) bulk_nd2 h
    have h2 := sum_ge (List.mem_map.2 ⟨x, hx, rfl⟩ : (fun x : Nd => (x.props.map fun p : Pr => p.1.length + p.2.length).sum) x ∈ t.map fun x : Nd => (x.props.map fun p : Pr => p.1.length + p.2.length).sum)
    have h3 := sum_ge (List.mem_map.2 ⟨p, hp, rfl⟩ : (fun p : Pr => p.1.length + p.2.length) p ∈ x.props.map fun p : Pr => p.1.length + p.2.length)
    dsimp only at h2 h3; omega
theorem bd_pc {H : Type} {x : Pc} {d : DataW H} (h : datPc H x d) (hb : Rows.uptoBulk d ≤ 1048576) : Bd x.nodes ∧ x.drop.length ≤ 1500000 ∧ x.target.length ≤ 1500000 := by
  have h0 := bulk_pc x d h
  obtain ⟨d0, d1, d2, rfl, h1, h2, h3⟩ := h
  refine ⟨bd_nds h2 ?_, by omega, by omega⟩
  simp only [Rows.uptoBulk, Rows.uptoBulkAll] at hb
  omega
end Go.Proofs.YtjpebmgllfiloaaDoor
