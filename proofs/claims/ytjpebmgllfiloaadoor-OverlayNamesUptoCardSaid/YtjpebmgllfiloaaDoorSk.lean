/-
  Stacks: how they lie in memory; the walks of twin, New, top, Tree, Base.
-/
import Derived.Test.YtjpebmgllfiloaaDoorLz
import Derived.Test.YtjpebmgllfiloaaDoorCpy
namespace Go.Proofs.YtjpebmgllfiloaaDoor
open Go Wk
open Go.RowKit (Below)
attribute [local irreducible] Go.Calls

/-- Nodes that read so, their lists of props by value. -/
theorem rNd_flat {Pb : Nat → Prop} {w : World} {v : Value} {t : List Nd} (h : RdS rNd 3 Pb w v t) : ∃ pvs : List Sl, pvs.length = t.length ∧ RdS (flat ndV) 3 Pb w v (t.zip pvs) ∧ ∀ (i : Nat) (x : Nd) (pv : Sl), t[i]? = some x → pvs[i]? = some pv → RdS rPr 2 Pb w (slV pv) x.props := by
  have sl : ∀ (x : Nd) (cs : List Value), rNd Pb w x cs → ∃ pv : Sl, cs = ndV (x, pv) ∧ RdS rPr 2 Pb w (slV pv) x.props := fun x cs ⟨v, hc, hr⟩ => by
    obtain ⟨a, cap, rfl, _, _⟩ := hr.form
    exact ⟨(a, x.props.length, cap), hc, hr⟩
  rcases h with ⟨rfl, rfl⟩ | ⟨a, cap, rfl, rfl, hc⟩ | ⟨b, off, cap, cur, e, fr, rfl, hb, hh, h1, h2, h3, h4⟩
  · exact ⟨[], rfl, .inl ⟨rfl, rfl⟩, by simp⟩
  · exact ⟨[], rfl, .inr (.inl ⟨a, cap, rfl, rfl, hc⟩), by simp⟩
  · obtain ⟨pvs, hpl, hpv⟩ := list_of (n := t.length) (Q := fun i (pv : Sl) => ∀ x, t[i]? = some x → (cur.toList.drop (off + i * 3)).take 3 = ndV (x, pv) ∧ RdS rPr 2 Pb w (slV pv) x.props) fun i hi => by
      obtain ⟨x, hx⟩ := get_lt t hi
      obtain ⟨pv, g1, g2⟩ := sl x _ (h4 i x hx)
      exact ⟨pv, fun y hy => by rw [hx] at hy; cases hy; exact ⟨g1, g2⟩⟩
    have hzl : (t.zip pvs).length = t.length := by simp [hpl]
    refine ⟨pvs, hpl, .inr (.inr ⟨b, off, cap, cur, e, fr, by rw [hzl], hb, hh, by rw [hzl]; exact h1, h2, by rw [hzl]; exact h3, fun i q hq => ?_⟩), fun i x pv hx hp => (hpv i pv hp x hx).2⟩
    rw [List.getElem?_zip_eq_some] at hq
    exact (hpv i q.2 hq.2 q.1 hq.1).1
theorem zip_set {α β : Type} : ∀ (l : List α) (m : List β) (i : Nat) (x : α) (y : β), l[i]? = some x → (l.zip m).set i (x, y) = l.zip (m.set i y)
  | [], m, i, x, y, h => by simp at h
  | a :: l, [], i, x, y, h => by simp
  | a :: l, b :: m, 0, x, y, h => by simp at h; subst h; rfl
  | a :: l, b :: m, i + 1, x, y, h => by
    simp only [List.zip_cons_cons, List.set_cons_succ]
    rw [zip_set l m i x y (by simpa using h)]
set_option maxHeartbeats 1000000 in
set_option maxRecDepth 4000 in
theorem twin_spec {Pt : Nat → Prop} {w : World} {v : Value} {t : List Nd} (h : RdS rNd 3 Pt w v t) (hl : t.length ≤ 2000000) (hpl : ∀ x ∈ t, x.props.length ≤ 2000000) :
    Calls Tryd.prog 52 #[v] w (Ret fun r w' => ∃ lab pvs, TrOwn w.heap.size lab w' r t pvs ∧ New w w') := by
  obtain ⟨a, cap, rfl, hc1, hc2⟩ := h.form
  obtain ⟨pvs, hpvl, hfl, hpr⟩ := rNd_flat h
  have hzl : (t.zip pvs).length = t.length := by simp [hpvl]
  refine calls_of_Wc Tryd.func52 rfl Tryd.ntmps52 rfl ?_
  (repeat' (first | refine Wl.moveE (by conv => { lhs; whnf }) ?_ | refine Wl.assignE (by conv => { lhs; whnf }) ?_ | refine Wl.nil ?_ | refine Wl.lenS rfl ?_ | refine Qseq.normal ?_ | refine Wc.seq ?_ | refine Wc.region ?_))
  refine Wl.makeA (m := t.length) rfl rfl (by omega) (by simp only [maxLen]; omega) fun w1 cs0 o1 n1 s1 => ?_
  (repeat' (first | refine Wl.moveE (by conv => { lhs; whnf }) ?_ | refine Wl.assignE (by conv => { lhs; whnf }) ?_ | refine Wl.nil ?_ | refine Qseq.normal ?_ | refine Wc.seq ?_ | refine Wc.region ?_))
  refine Wl.copyAll (R := flat ndV) (Pe := No) (xs := t.zip pvs) goodNdV o1 rfl (hfl.keep (stable_flat ndV) n1.keep) hzl (fun x cs h => h) (by omega) rfl rfl fun w2 o2 c2 s2 => ?_
  have n2 : New w w2 := Chg.trans n1 c2 fun b hb e => by omega
  clear o1
  (repeat' (first | refine Wl.moveE (by conv => { lhs; whnf }) ?_ | refine Wl.nil ?_ | refine Wl.lenS rfl ?_ | refine Qseq.normal ?_ | refine Wc.seq ?_ | refine Wc.region ?_ | refine Wc.block ?_))
  refine Wc.loop (σ := Nat × Lb × List Sl) (fun s => [(3, .slice (some ⟨w.heap.size, 0, none⟩) t.length t.length), (12, vi t.length), (13, vi s.1)])
    (fun s w' => s.1 ≤ t.length ∧ s.2.2.length = t.length ∧ OwnS (flat ndV) tNd 3 (fun b => b = w.heap.size) No w' (.slice (some ⟨w.heap.size, 0, none⟩) t.length t.length) (t.zip s.2.2) ∧ (∀ j, s.1 ≤ j → s.2.2[j]? = pvs[j]?) ∧
      (∀ (j : Nat) (x : Nd) (pv : Sl), j < s.1 → t[j]? = some x → s.2.2[j]? = some pv → OwnPr (fun b => s.2.1 b = some (j + 1)) w' (slV pv) x.props) ∧ (∀ b c, s.2.1 b = some c → w.heap.size < b ∧ b < w'.heap.size ∧ c ≠ 0) ∧ New w w') (fun s => t.length - s.1)
    (0, fun _ => none, pvs) ⟨rfl, rfl, rfl, trivial⟩ ⟨Nat.zero_le _, hpvl, o2, fun _ _ => rfl, fun j x pv hj => (by omega), fun b c e => (by cases e), n2⟩ ?_
  rintro ⟨i, lab, qvs⟩ G w3 ⟨hi, hql, o3, hrest, hdone, hlow, n3⟩
  dsimp only at hi hql o3 hrest hdone hlow n3
  simp only [upds]
  (repeat' (first | refine Wl.moveE (by conv => { lhs; whnf }) ?_ | refine Wl.assignE (by conv => { lhs; whnf }) ?_ | refine Wl.nil ?_ | refine Qseq.normal ?_ | refine Wc.seq ?_ | refine Wc.region ?_ | refine Wc.block ?_ | refine Wc.skip ?_ | refine Wc.exit ?_ | refine Wc.ret ?_ | refine Qseq.exit ?_ | refine Qblk.hit ?_ | refine Qloop.exit ?_ | refine Wc.condT rfl ?_ | refine Wc.condF rfl ?_ | refine Wl.lss rfl rfl (fun _ => ?_) (fun _ => ?_)))
  · obtain ⟨x, hx⟩ := get_lt t (k := i) (by omega)
    obtain ⟨pv, hpv⟩ := get_lt pvs (k := i) (by omega)
    have hqv : qvs[i]? = some pv := (hrest i (Nat.le_refl _)).trans hpv
    have hz : (t.zip qvs)[i]? = some (x, pv) := by rw [List.getElem?_zip_eq_some]; exact ⟨hx, hqv⟩
    refine Wl.idxAddr (o3.rd (mono_flat ndV)) rfl rfl (by omega) hz fun b o cs hl hR hat => ?_
    obtain rfl : cs = ndV (x, pv) := hR
    (repeat' (refine Wl.fieldAddr rfl rfl ?_))
    refine Wl.load1 rfl (hat.get 2 rfl) ?_
    clear hat
    refine Wl.call (ClonePr_spec ((hpr i x pv hx hpv).keep (stable_flat pC) n3.keep) (hpl x (List.mem_of_getElem? hx))) rfl ?_
    rintro qv w4 ⟨oq, n4⟩
    have o4 := o3.new (plain_flat ndV) n4
    obtain ⟨qa, qc, rfl, _, _⟩ := oq.form
    have hqzl : (t.zip qvs).length = t.length := by simp [hql]
    refine Wl.idxP rfl rfl (by omega) (by omega) ?_
    (repeat' (refine Wl.fieldAddr rfl rfl ?_))
    refine Wl.storeOwnF (f := ndV) (sz := 3) (o := 2) (j := i) (p := (x, pv)) (q := (x, (qa, x.props.length, qc))) (u := .slice qa x.props.length qc) (cap := t.length) (fun _ => rfl) (by omega) rfl hz rfl o4 (by rw [hqzl]) (by show Value.pointer (some ⟨w.heap.size, 0 + (i : Int).toNat * 3 + 2, none⟩) = _; simp) rfl fun w5 o5 c5 => ?_
    rw [zip_set t qvs i x _ hx] at o5
    have hob : (Value.slice (some (⟨w.heap.size, 0, none⟩ : Addr)) t.length t.length).ownBlock = some w.heap.size := rfl
    have s3 := n3.size
    have s4 := n4.size
    have s5 := c5.size
    have sw : w.heap.size < w3.heap.size := (o3.lt hob).2
    have n5 : New w w5 := Chg.trans (New.trans n3 n4) c5 fun b hb e => by rw [hob, Option.some.injEq] at e; omega
    (repeat' (first | refine Wl.moveE (by conv => { lhs; whnf }) ?_ | refine Wl.nil ?_ | refine Qseq.normal ?_ | refine Wc.region ?_ | refine Qblk.normal ?_ | refine Wl.add rfl rfl (by omega) (by omega) ?_))
    refine Qloop.normal (i + 1, fun b => if b < w3.heap.size then lab b else if b < w4.heap.size then some (i + 1) else none, qvs.set i (qa, x.props.length, qc)) ⟨rfl, rfl, rfl, trivial⟩ ⟨by dsimp only; omega, by simpa using hql, o5, fun j hj => ?_, fun j y pw hj hy hw => ?_, fun b c e => ?_, n5⟩ (by dsimp only; omega)
    · dsimp only at hj ⊢
      rw [List.getElem?_set, if_neg (by omega)]
      exact hrest j (by omega)
    · dsimp only at hj hw ⊢
      rw [List.getElem?_set] at hw
      split at hw
      · rename_i e
        subst e
        split at hw
        · rw [hx] at hy
          cases hy
          cases hw
          have oq5 := oq.chg plainPr c5 (fun b hb e => by
            have := (oq.lt hb).1
            rw [hob, Option.some.injEq] at e; omega)
          exact oq5.reblk fun b hb e => by
            have := (oq.lt hb).2
            show (if b < w3.heap.size then lab b else if b < w4.heap.size then some (i + 1) else none) = _
            rw [if_neg (by omega), if_pos this]
        · cases hw
      · rename_i hne
        have hj' : j < i := by omega
        have h1 := hdone j y pw hj' hy hw
        have h2 := (h1.new plainPr n4).chg plainPr c5 (fun b hb e => by
          have := hlow b _ (h1.lt hb).1
          rw [hob, Option.some.injEq] at e; omega)
        exact h2.reblk fun b hb e => by
          show (if b < w3.heap.size then lab b else if b < w4.heap.size then some (i + 1) else none) = _
          rw [if_pos (h1.lt hb).2]; exact e
    · dsimp only at e
      split at e
      · have := hlow b c e; omega
      · split at e
        · cases e; omega
        · cases e
  · have e : i = t.length := by omega
    subst e
    refine Qfn.ret1 rfl rfl ⟨_, rfl, fun b => if b = w.heap.size then some 0 else lab b, qvs, ⟨hql, fun b c e => ?_, ?_, fun j x pv hx hp => ?_⟩, n3⟩
    · split at e
      · rename_i hb
        subst hb
        exact ⟨Nat.le_refl _, (o3.lt rfl).2⟩
      · have := hlow b c e; omega
    · exact o3.reblk fun b hb e => by rw [e, if_pos rfl]
    · have h1 := hdone j x pv (List.getElem?_eq_some_iff.1 hx).1 hx hp
      exact h1.reblk fun b hb e => by
        have := hlow b _ (h1.lt hb).1
        rw [if_neg (by omega)]; exact e
end Go.Proofs.YtjpebmgllfiloaaDoor
