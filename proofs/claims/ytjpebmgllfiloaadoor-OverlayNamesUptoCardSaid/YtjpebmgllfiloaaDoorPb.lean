/-
  A piece laid over a tree, as such; and that laying it over knots comes to this.
-/
import Derived.Test.YtjpebmgllfiloaaDoorPa
namespace Go.Proofs.YtjpebmgllfiloaaDoor
open Go Wk

def insK (g : T → T) (nm : List UInt8) : List T → List T
  | [] => [g (.mk nm [] [])]
  | k :: ks => if k.name = nm then g k :: ks else k :: insK g nm ks
mutual
def layT : T → T → T
  | .mk _ qs js, .mk nm ps ks => .mk nm (qs.foldl setPr ps) (layK js ks)
def layK : List T → List T → List T
  | [], ks => ks
  | j :: js, ks => layK js (insK (layT j) j.name ks)
end
mutual
def bigT : T → Bool
  | .mk _ ps ks => decide (32 < ps.length) || bigK ks
def bigK : List T → Bool
  | [] => false
  | t :: ts => bigT t || bigK ts
end
theorem layT_name (π τ : T) : (layT π τ).name = τ.name := by cases π; cases τ; rfl
theorem szK_append : ∀ (a b : List T), szK (a ++ b) = szK a + szK b
  | [], b => by simp [szK]
  | t :: ts, b => by simp only [List.cons_append, szK, szK_append ts b]; omega
theorem bigK_append : ∀ (a b : List T), bigK (a ++ b) = (bigK a || bigK b)
  | [], b => by simp [bigK]
  | t :: ts, b => by simp only [List.cons_append, bigK, bigK_append ts b, Bool.or_assoc]
/-- A name among kids: the first of it, or none. -/
theorem insK_cases (g : T → T) (nm : List UInt8) : ∀ (ks : List T), (∃ k1 t k2, ks = k1 ++ t :: k2 ∧ (∀ x ∈ k1, x.name ≠ nm) ∧ t.name = nm ∧ insK g nm ks = k1 ++ g t :: k2) ∨ ((∀ x ∈ ks, x.name ≠ nm) ∧ insK g nm ks = ks ++ [g (.mk nm [] [])])
  | [] => .inr ⟨by simp, rfl⟩
  | k :: ks => by
    unfold insK
    by_cases h : k.name = nm
    · rw [if_pos h]; exact .inl ⟨[], k, ks, rfl, by simp, h, rfl⟩
    · rw [if_neg h]
      rcases insK_cases g nm ks with ⟨k1, t, k2, rfl, h1, h2, h3⟩ | ⟨h1, h2⟩
      · exact .inl ⟨k :: k1, t, k2, rfl, by simpa [h] using h1, h2, by rw [h3]; rfl⟩
      · exact .inr ⟨by simpa [h] using h1, by rw [h2]; rfl⟩
mutual
theorem layT_mono : ∀ (π τ : T), szT τ ≤ szT (layT π τ) ∧ (bigT τ = true → bigT (layT π τ) = true)
  | .mk _ qs js, .mk nm ps ks => by
    have h := layK_mono js ks
    have h2 := foldl_setPr_length qs ps
    simp only [layT, szT, bigT, Bool.or_eq_true, decide_eq_true_eq]
    refine ⟨by omega, ?_⟩
    rintro (h3 | h3)
    · left; omega
    · exact .inr (h.2 h3)
theorem layK_mono : ∀ (js ks : List T), szK ks ≤ szK (layK js ks) ∧ (bigK ks = true → bigK (layK js ks) = true)
  | [], ks => by simp [layK]
  | j :: js, ks => by
    have h := layK_mono js (insK (layT j) j.name ks)
    rw [layK]
    rcases insK_cases (layT j) j.name ks with ⟨k1, t, k2, e, _, _, h3⟩ | ⟨_, h3⟩
    · have h4 := layT_mono j t
      rw [h3] at h ⊢
      subst e
      simp only [szK_append, szK, bigK_append, bigK, Bool.or_eq_true] at h ⊢
      refine ⟨by omega, fun h5 => h.2 ?_⟩
      rcases h5 with h5 | h5 | h5
      · exact .inl h5
      · exact .inr (.inl (h4.2 h5))
      · exact .inr (.inr h5)
    · have h4 := layT_mono j (.mk j.name [] [])
      rw [h3] at h ⊢
      simp only [szK_append, szK, bigK_append, bigK, Bool.or_eq_true] at h ⊢
      exact ⟨by omega, fun h5 => h.2 (.inl h5)⟩
end

/-! Over knots. -/
theorem find_none {G : List Kn} {nm : List UInt8} {P : Nat → Bool} (hP : ∀ j x, G[j]? = some x → P j = decide (x.name = nm)) : ∀ {ks : List T} {l ids : List Nat}, IsL G ks l ids → (∀ x ∈ ks, x.name ≠ nm) → l.find? P = none
  | [], l, ids, h, _ => by simp only [IsL] at h; rw [h.1]; rfl
  | t :: ts, l, ids, h, hn => by
    simp only [IsL] at h
    obtain ⟨j, r, a, b, rfl, rfl, h1, h2⟩ := h
    obtain ⟨kk, hk⟩ := h1.get
    rw [List.find?_cons, hP j _ hk]
    simp only [decide_eq_false (hn t (by simp))]
    exact find_none hP h2 fun x hx => hn x (by simp [hx])
theorem kidIdx_none {G : List Kn} {k : Nat} {nm nm0 : List UInt8} {ps : List Pr} {kk r : List Nat} {ks : List T} (hk : G[k]? = some ⟨nm0, ps, kk⟩) (h : IsL G ks kk r) (hn : ∀ x ∈ ks, x.name ≠ nm) : kidIdx G k nm = none := by
  unfold kidIdx; rw [hk]
  exact find_none (fun j x hx => by simp only [hx]) h hn
theorem kidIdx_some {G : List Kn} {k j : Nat} {nm nm0 : List UInt8} {ps : List Pr} {l1 l2 a b : List Nat} {k1 : List T} {t : T} (hk : G[k]? = some ⟨nm0, ps, l1 ++ j :: l2⟩) (h : IsL G k1 l1 a) (hn : ∀ x ∈ k1, x.name ≠ nm) (ht : Is G t j b) (htn : t.name = nm) : kidIdx G k nm = some j := by
  unfold kidIdx; rw [hk]
  dsimp only
  obtain ⟨kk, hj⟩ := ht.get
  rw [List.find?_append, find_none (nm := nm) (fun j x hx => by simp only [hx]) h hn, Option.none_or, List.find?_cons, hj]
  simp only [htn, decide_true]
/-- What may have come of knots. -/
structure Grew (G G' : List Kn) (ids ids' : List Nat) : Prop where
  len : G.length ≤ G'.length
  nd : ids'.Nodup
  new : ∀ x ∈ ids', x ∈ ids ∨ (G.length ≤ x ∧ x < G'.length)
  old : ∀ x, x < G.length → x ∉ ids → G'[x]? = G[x]?
theorem layLoop_skip (pn : List Nd) (k n : Nat) (rec : Nat → Nat → List Kn → Int → LayR) (G : List Kn) (c : Int) : ∀ (m q : Nat), (∀ i x, q ≤ i → i < q + m → pn[i]? = some x → x.parent ≠ (n : Int)) →
    layLoop pn k n rec ((List.range pn.length).drop q) G c = layLoop pn k n rec ((List.range pn.length).drop (q + m)) G c
  | 0, q, _ => rfl
  | m + 1, q, h => by
    by_cases hq : q < pn.length
    · obtain ⟨x, hx⟩ := get_lt pn hq
      have hdr : (List.range pn.length).drop q = q :: (List.range pn.length).drop (q + 1) := drop_cons (by rw [List.getElem?_range hq])
      rw [hdr, layLoop, hx]
      dsimp only
      rw [if_pos (h q x (Nat.le_refl _) (by omega) hx), layLoop_skip pn k n rec G c m (q + 1) fun i x h1 h2 h3 => h i x (by omega) (by omega) h3]
      congr 2; omega
    · rw [List.drop_eq_nil_of_le (by simp; omega), List.drop_eq_nil_of_le (by simp; omega)]
theorem drop_get {α : Type} {l m : List α} {q i : Nat} (h : l.drop q = m) : l[q + i]? = m[i]? := by rw [← h, List.getElem?_drop]
/-- Behind the nodes of a tree stands nothing that hangs on it. -/
def Off (n m : Nat) (rest : List Nd) : Prop := ∀ x ∈ rest, x.parent < n ∨ (n + m : Int) ≤ x.parent
theorem nodup_mid {a b b' c : List Nat} {m : Nat} (h : (a ++ (b ++ c)).Nodup) (hb' : b'.Nodup) (hlt : ∀ x ∈ a ++ (b ++ c), x < m) (hn : ∀ x ∈ b', x ∈ b ∨ m ≤ x) : (a ++ (b' ++ c)).Nodup := by
  simp only [List.nodup_append, List.mem_append, ne_eq] at h hlt ⊢
  obtain ⟨ha, ⟨hb, hc, hbc⟩, hd⟩ := h
  refine ⟨ha, ⟨hb', hc, fun x hx y hy e => ?_⟩, fun x hx y hy e => ?_⟩
  · subst e
    rcases hn x hx with h1 | h1
    · exact hbc x h1 x hy rfl
    · have := hlt x (.inr (.inr hy)); omega
  · subst e
    rcases hy with hy | hy
    · rcases hn x hy with h1 | h1
      · exact hd x hx x (.inl h1) rfl
      · have := hlt x (.inl hx); omega
    · exact hd x hx x (.inr hy) rfl
mutual
theorem layG_is {pn : List Nd} : ∀ (π : T) (n : Nat) (up : Int) (rest : List Nd) (f k : Nat) (G : List Kn) (τ : T) (ids : List Nat),
    pn.drop n = flT π up n ++ rest → Off n (szT π) rest → szT π ≤ f → Is G τ k ids → ids.Nodup → (∀ x ∈ ids, x < G.length) →
    ∀ r, layG pn f k n G (G.length : Int) = r →
    (r.1 = true → ∃ ids', Is r.2.1 (layT π τ) k ids' ∧ Grew G r.2.1 ids ids' ∧ r.2.2 = (r.2.1.length : Int) ∧ r.2.1.length + szT τ = G.length + szT (layT π τ)) ∧
    (r.1 = false → bigT (layT π τ) = true ∨ 512 + szT τ < G.length + szT (layT π τ))
  | .mk nm qs js, n, up, rest, 0, k, G, τ, ids, _, _, hf, _, _, _, _, _ => by simp only [szT] at hf; omega
  | .mk pnm qs js, n, up, rest, f + 1, k, G, .mk nm ps ks, ids, hpn, hoff, hf, his, hnd, hlt, r, hr => by
    simp only [Is] at his
    obtain ⟨kk, r0, hk, rfl, hl⟩ := his
    have hkl : k < G.length := hlt k (by simp)
    have hx : pn[n]? = some ⟨up, pnm, qs⟩ := by
      have := drop_get (i := 0) hpn
      simpa [flT] using this
    rw [layG, hk, hx] at hr
    dsimp only at hr
    have hset : (G.set k ⟨nm, qs.foldl setPr ps, kk⟩)[k]? = some ⟨nm, qs.foldl setPr ps, kk⟩ := by rw [List.getElem?_set, if_pos rfl, if_pos hkl]
    have hother : ∀ x, x ≠ k → (G.set k (⟨nm, qs.foldl setPr ps, kk⟩ : Kn))[x]? = G[x]? := fun x hx => by rw [List.getElem?_set, if_neg (fun e => hx e.symm)]
    by_cases hps : 32 < (qs.foldl setPr ps).length
    · rw [if_pos hps] at hr
      subst hr
      exact ⟨fun e => (by cases e), fun _ => .inl (by simp only [layT, bigT, hps, decide_true, Bool.true_or])⟩
    · rw [if_neg hps] at hr
      have hdr : pn.drop (n + 1) = flK js n (n + 1) ++ rest := by
        have := congrArg (List.drop 1) hpn
        simpa [flT, List.drop_drop] using this
      have hlf : IsL (G.set k ⟨nm, qs.foldl setPr ps, kk⟩) ks kk r0 := hl.frame fun x hx => hother x fun e => by
        subst e; exact (List.nodup_cons.1 hnd).1 hx
      have := layLoop_is js (n + 1) n rest f k _ nm (qs.foldl setPr ps) kk ks r0 hdr (by omega) (by
        simp only [szT] at hoff
        intro x hx
        rcases hoff x hx with h | h
        · exact ⟨by omega, by left; omega⟩
        · exact ⟨by omega, by right; omega⟩) (by simp only [szT] at hf; omega) hset hlf hnd (by simpa using hlt) r (by rw [List.length_set]; exact hr)
      rw [List.length_set] at this
      obtain ⟨h1, h2⟩ := this
      refine ⟨fun e => ?_, fun e => ?_⟩
      · obtain ⟨kk', r', h3, h4, h5, h6, h7⟩ := h1 e
        refine ⟨k :: r', ?_, ⟨?_, h5.nd, ?_, fun x hx hn => ?_⟩, h6, by simp only [layT, szT]; omega⟩
        · simp only [layT, Is]
          exact ⟨kk', r', h3, rfl, h4⟩
        · have := h5.len; simpa using this
        · have := h5.new; simpa using this
        · rw [h5.old x (by simpa using hx) hn]
          exact hother x fun e => hn (by simp [e])
      · rcases h2 e with h3 | h3
        · exact .inl (by simp only [layT, bigT, h3, Bool.or_true])
        · right; simp only [layT, szT]; omega
theorem layLoop_is {pn : List Nd} : ∀ (πs : List T) (q n : Nat) (rest : List Nd) (f k : Nat) (G : List Kn) (nm : List UInt8) (ps : List Pr) (kk : List Nat) (ks : List T) (r0 : List Nat),
    pn.drop q = flK πs n q ++ rest → n < q → (∀ x ∈ rest, x.parent ≠ n ∧ (x.parent < q ∨ (q + szK πs : Int) ≤ x.parent)) → szK πs ≤ f → G[k]? = some ⟨nm, ps, kk⟩ → IsL G ks kk r0 → (k :: r0).Nodup → (∀ x ∈ k :: r0, x < G.length) →
    ∀ r, layLoop pn k n (fun j i G c => layG pn f j i G c) ((List.range pn.length).drop q) G (G.length : Int) = r →
    (r.1 = true → ∃ kk' r', r.2.1[k]? = some ⟨nm, ps, kk'⟩ ∧ IsL r.2.1 (layK πs ks) kk' r' ∧ Grew G r.2.1 (k :: r0) (k :: r') ∧ r.2.2 = (r.2.1.length : Int) ∧ r.2.1.length + szK ks = G.length + szK (layK πs ks)) ∧
    (r.1 = false → bigK (layK πs ks) = true ∨ 512 + szK ks < G.length + szK (layK πs ks))
  | [], q, n, rest, f, k, G, nm, ps, kk, ks, r0, hpn, hn, hrest, hf, hk, hl, hnd, hlt, r, hr => by
    simp only [flK, List.nil_append] at hpn
    have hs := layLoop_skip pn k n (fun j i G c => layG pn f j i G c) G (G.length : Int) rest.length q fun i x h1 h2 h3 => by
      have h4 := drop_get (i := i - q) hpn
      rw [Nat.add_sub_cancel' h1, h3] at h4
      exact (hrest x (List.mem_of_getElem? h4.symm)).1
    have hlen : pn.length ≤ q + rest.length := by rw [← hpn, List.length_drop]; omega
    rw [hs, List.drop_eq_nil_of_le (by simpa using hlen), layLoop] at hr
    subst hr
    exact ⟨fun _ => ⟨kk, r0, hk, by rw [layK]; exact hl, ⟨Nat.le_refl _, hnd, fun x hx => .inl hx, fun _ _ _ => rfl⟩, rfl, by rw [layK]⟩, fun e => by cases e⟩
  | π :: πs, q, n, rest, f, k, G, nm, ps, kk, ks, r0, hpn, hn, hrest, hf, hk, hl, hnd, hlt, r, hr => by
    simp only [flK, List.append_assoc] at hpn
    simp only [szK] at hf hrest
    have hszp := szT_pos π
    obtain ⟨fr, hfr⟩ := flT_head π (n : Int) q
    have hx : pn[q]? = some ⟨n, π.name, π.props⟩ := by
      have := drop_get (i := 0) hpn
      simpa [hfr] using this
    have hql : q < pn.length := (List.getElem?_eq_some_iff.1 hx).1
    have hdr : (List.range pn.length).drop q = q :: (List.range pn.length).drop (q + 1) := drop_cons (by rw [List.getElem?_range hql])
    rw [hdr, layLoop, hx] at hr
    dsimp only at hr
    rw [if_neg (by simp)] at hr
    have hoff : Off q (szT π) (flK πs n (q + szT π) ++ rest) := by
      intro x hx
      rcases List.mem_append.1 hx with hx | hx
      · rcases flK_par πs n (q + szT π) (by omega) x hx with h | h
        · left; omega
        · right; omega
      · rcases (hrest x hx).2 with h | h
        · left; exact h
        · right; omega
    have hdr2 : pn.drop (q + szT π) = flK πs n (q + szT π) ++ rest := by
      have := congrArg (List.drop (szT π)) hpn
      rw [List.drop_drop, List.drop_append_of_le_length (by rw [flT_length]; exact Nat.le_refl _), List.drop_eq_nil_of_le (show (flT π (n : Int) q).length ≤ szT π by rw [flT_length]; exact Nat.le_refl _), List.nil_append] at this
      exact this
    have hskip : ∀ G' c', layLoop pn k n (fun j i G c => layG pn f j i G c) ((List.range pn.length).drop (q + 1)) G' c' = layLoop pn k n (fun j i G c => layG pn f j i G c) ((List.range pn.length).drop (q + szT π)) G' c' := fun G' c' => by
      have hs := layLoop_skip pn k n (fun j i G c => layG pn f j i G c) G' c' (szT π - 1) (q + 1) fun i x h1 h2 h3 => by
        have h4 := drop_get (i := i - q) hpn
        rw [Nat.add_sub_cancel' (by omega), h3, List.getElem?_append_left (by rw [flT_length]; omega), hfr] at h4
        obtain ⟨m, hm⟩ : ∃ m, i - q = m + 1 := ⟨i - q - 1, by omega⟩
        rw [hm, List.getElem?_cons_succ] at h4
        have := flT_par π n q fr hfr x (List.mem_of_getElem? h4.symm)
        omega
      rw [hs]; congr 2; omega
    have hrest2 : ∀ x ∈ rest, x.parent ≠ n ∧ (x.parent < ((q + szT π : Nat) : Int) ∨ ((q + szT π : Nat) + szK πs : Int) ≤ x.parent) := fun x hx => ⟨(hrest x hx).1, by
      rcases (hrest x hx).2 with h | h
      · left; omega
      · right; omega⟩
    rw [layK]
    rcases insK_cases (layT π) π.name ks with ⟨k1, t, k2, rfl, hno, htn, hins⟩ | ⟨hno, hins⟩
    · obtain ⟨l1, l2', a, bc, rfl, rfl, i1, i2, _⟩ := hl.split
      simp only [IsL] at i2
      obtain ⟨j, l2, b, c, rfl, rfl, ij, i3⟩ := i2
      rw [kidIdx_some hk i1 hno ij htn] at hr
      dsimp only at hr
      have hnd' := List.nodup_cons.1 hnd
      have hbn : b.Nodup := by have := hnd'.2; simp only [List.nodup_append] at this; exact this.2.1.1
      have hrec := layG_is π q n _ f j G t b hpn hoff (by omega) ij hbn (fun x hx => hlt x (by simp [hx])) _ rfl
      generalize hres : layG pn f j q G (G.length : Int) = R at hr hrec
      obtain ⟨ok, G', c'⟩ := R
      rw [hins]
      cases ok with
      | false =>
        dsimp only at hr hrec
        subst hr
        refine ⟨fun e => (by cases e), fun _ => ?_⟩
        have hm := layK_mono πs (k1 ++ layT π t :: k2)
        simp only [szK_append, szK, bigK_append, bigK, Bool.or_eq_true] at hm ⊢
        rcases hrec.2 rfl with h | h
        · exact .inl (hm.2 (.inr (.inl h)))
        · right; omega
      | true =>
        dsimp only at hr hrec
        obtain ⟨b', ib', gr, rfl, hsz⟩ := hrec.1 rfl
        rw [hskip] at hr
        have hold : ∀ x, x ∈ k :: (a ++ (b ++ c)) → x ∉ b → G'[x]? = G[x]? := fun x hx hb => gr.old x (hlt x hx) hb
        have hkb : k ∉ b := fun e => hnd'.1 (by simp [e])
        have hab : ∀ x ∈ a, x ∉ b := fun x hx hb => by
          have := hnd'.2
          simp only [List.nodup_append, List.mem_append] at this
          exact this.2.2 x hx x (.inl hb) rfl
        have hcb : ∀ x ∈ c, x ∉ b := fun x hx hb => by
          have := hnd'.2
          simp only [List.nodup_append, List.mem_append] at this
          exact this.2.1.2.2 x hb x hx rfl
        have hk' : G'[k]? = some ⟨nm, ps, l1 ++ j :: l2⟩ := (hold k (by simp) hkb).trans hk
        have hl' : IsL G' (k1 ++ layT π t :: k2) (l1 ++ j :: l2) (a ++ (b' ++ c)) := by
          refine (i1.frame fun x hx => hold x (by simp [hx]) (hab x hx)).append ?_
          simp only [IsL]
          exact ⟨j, l2, b', c, rfl, rfl, ib', i3.frame fun x hx => hold x (by simp [hx]) (hcb x hx)⟩
        have hnew : ∀ x ∈ b', x ∈ b ∨ G.length ≤ x := fun x hx => (gr.new x hx).imp id (·.1)
        have hnd2 : (k :: (a ++ (b' ++ c))).Nodup := by
          refine List.nodup_cons.2 ⟨fun hx => ?_, nodup_mid hnd'.2 gr.nd (fun x hx => hlt x (by simp only [List.mem_cons]; exact .inr hx)) hnew⟩
          simp only [List.mem_append] at hx
          rcases hx with hx | hx | hx
          · exact hnd'.1 (by simp [hx])
          · rcases hnew k hx with h | h
            · exact hkb h
            · have := hlt k (by simp); omega
          · exact hnd'.1 (by simp [hx])
        have hlt2 : ∀ x ∈ k :: (a ++ (b' ++ c)), x < G'.length := fun x hx => by
          have hlen := gr.len
          simp only [List.mem_cons, List.mem_append] at hx
          rcases hx with hx | hx | hx | hx
          · have := hlt x (by simp [hx]); omega
          · have := hlt x (by simp [hx]); omega
          · rcases gr.new x hx with h | h
            · have := hlt x (by simp [h]); omega
            · exact h.2
          · have := hlt x (by simp [hx]); omega
        have ih := layLoop_is πs (q + szT π) n rest f k G' nm ps (l1 ++ j :: l2) (k1 ++ layT π t :: k2) (a ++ (b' ++ c)) hdr2 (by omega) hrest2 (by omega) hk' hl' hnd2 hlt2 r hr
        refine ⟨fun e => ?_, fun e => ?_⟩
        · obtain ⟨kk', r', h1, h2, h3, h4, h5⟩ := ih.1 e
          refine ⟨kk', r', h1, h2, ⟨Nat.le_trans gr.len h3.len, h3.nd, fun x hx => ?_, fun x hx hn' => ?_⟩, h4, ?_⟩
          · rcases h3.new x hx with h | h
            · simp only [List.mem_cons, List.mem_append] at h ⊢
              rcases h with h | h | h | h
              · exact .inl (.inl h)
              · exact .inl (.inr (.inl h))
              · rcases gr.new x h with h' | h'
                · exact .inl (.inr (.inr (.inl h')))
                · have := h3.len; right; omega
              · exact .inl (.inr (.inr (.inr h)))
            · have := gr.len; right; omega
          · simp only [List.mem_cons, List.mem_append, not_or] at hn'
            rw [h3.old x (by have := gr.len; omega) (by
              simp only [List.mem_cons, List.mem_append, not_or]
              refine ⟨hn'.1, hn'.2.1, fun h => ?_, hn'.2.2.2⟩
              rcases hnew x h with h' | h'
              · exact hn'.2.2.1 h'
              · omega), gr.old x hx hn'.2.2.1]
          · simp only [szK_append, szK] at h5 ⊢; omega
        · rcases ih.2 e with h | h
          · exact .inl h
          · right; simp only [szK_append, szK] at h ⊢; omega
    · rw [kidIdx_none hk hl hno] at hr
      dsimp only at hr
      rw [hins]
      have hm := layK_mono πs (ks ++ [layT π (.mk π.name [] [])])
      have hm2 := (layT_mono π (.mk π.name [] [])).1
      simp only [szT, szK] at hm2
      by_cases hc : (512 : Int) < (G.length : Int) + 1
      · rw [if_pos hc] at hr
        subst hr
        refine ⟨fun e => (by cases e), fun _ => .inr ?_⟩
        simp only [szK_append, szK] at hm ⊢
        omega
      · rw [if_neg hc] at hr
        have hkl : k < G.length := hlt k (by simp)
        have hkidl : (addKid (G ++ [(⟨π.name, [], []⟩ : Kn)]) k G.length).length = G.length + 1 := by rw [addKid_length]; simp
        have hG1k : (addKid (G ++ [(⟨π.name, [], []⟩ : Kn)]) k G.length)[k]? = some ⟨nm, ps, kk ++ [G.length]⟩ := by
          unfold addKid
          rw [List.getElem?_append_left hkl, hk]
          dsimp only
          rw [List.getElem?_set, if_pos rfl, if_pos (by simp; omega)]
        have hG1o : ∀ x, x ≠ k → x < G.length → (addKid (G ++ [(⟨π.name, [], []⟩ : Kn)]) k G.length)[x]? = G[x]? := fun x hx hlx => by
          unfold addKid
          rw [List.getElem?_append_left hkl, hk]
          dsimp only
          rw [List.getElem?_set, if_neg (fun e => hx e.symm), List.getElem?_append_left hlx]
        have hG1n : (addKid (G ++ [(⟨π.name, [], []⟩ : Kn)]) k G.length)[G.length]? = some ⟨π.name, [], []⟩ := by
          unfold addKid
          rw [List.getElem?_append_left hkl, hk]
          dsimp only
          rw [List.getElem?_set, if_neg (by omega), List.getElem?_append_right (Nat.le_refl _)]; simp
        generalize hG1 : addKid (G ++ [(⟨π.name, [], []⟩ : Kn)]) k G.length = G1 at hr hkidl hG1k hG1o hG1n
        have hnd' := List.nodup_cons.1 hnd
        have his1 : Is G1 (.mk π.name [] []) G.length [G.length] := by
          simp only [Is]
          exact ⟨[], [], hG1n, rfl, by simp [IsL]⟩
        have hrec := layG_is π q n _ f G.length G1 (.mk π.name [] []) [G.length] hpn hoff (by omega) his1 (by simp) (by simp [hkidl]) _ rfl
        rw [show (G.length : Int) + 1 = (G1.length : Int) by rw [hkidl]; rfl] at hr
        generalize hres : layG pn f G.length q G1 (G1.length : Int) = R at hr hrec
        obtain ⟨ok, G', c'⟩ := R
        cases ok with
        | false =>
          dsimp only at hr hrec
          subst hr
          refine ⟨fun e => (by cases e), fun _ => ?_⟩
          simp only [szK_append, szK, bigK_append, bigK, Bool.or_eq_true, szT] at hm hrec ⊢
          rcases hrec.2 trivial with h | h
          · exact .inl (hm.2 (.inr (.inl h)))
          · right; omega
        | true =>
          dsimp only at hr hrec
          obtain ⟨b', ib', gr, rfl, hsz⟩ := hrec.1 rfl
          rw [hskip] at hr
          have hge : ∀ x ∈ b', G.length ≤ x := fun x hx => by
            rcases gr.new x hx with h | h
            · simp at h; omega
            · omega
          have hold : ∀ x, x ≠ k → x < G.length → G'[x]? = G[x]? := fun x hx hlx => (gr.old x (by omega) (by simp; omega)).trans (hG1o x hx hlx)
          have hk' : G'[k]? = some ⟨nm, ps, kk ++ [G.length]⟩ := (gr.old k (by omega) (by simp; omega)).trans hG1k
          have hl' : IsL G' (ks ++ [layT π (.mk π.name [] [])]) (kk ++ [G.length]) (r0 ++ b') := by
            refine (hl.frame fun x hx => hold x (fun e => hnd'.1 (e ▸ hx)) (hlt x (by simp [hx]))).append ?_
            simp only [IsL]
            exact ⟨G.length, [], b', [], rfl, by simp, ib', rfl, rfl⟩
          have hnd2 : (k :: (r0 ++ b')).Nodup := by
            refine List.nodup_cons.2 ⟨fun hx => ?_, List.nodup_append.2 ⟨hnd'.2, gr.nd, fun x hx y hy e => ?_⟩⟩
            · rcases List.mem_append.1 hx with h | h
              · exact hnd'.1 h
              · have := hge k h; omega
            · subst e
              have h1 := hlt x (by simp [hx])
              have h2 := hge x hy
              omega
          have hlt2 : ∀ x ∈ k :: (r0 ++ b'), x < G'.length := fun x hx => by
            have hlen := gr.len
            simp only [List.mem_cons, List.mem_append] at hx
            rcases hx with hx | hx | hx
            · have := hlt x (by simp [hx]); omega
            · have := hlt x (by simp [hx]); omega
            · rcases gr.new x hx with h | h
              · simp at h; omega
              · exact h.2
          have ih := layLoop_is πs (q + szT π) n rest f k G' nm ps (kk ++ [G.length]) (ks ++ [layT π (.mk π.name [] [])]) (r0 ++ b') hdr2 (by omega) hrest2 (by omega) hk' hl' hnd2 hlt2 r hr
          have hlen := gr.len
          refine ⟨fun e => ?_, fun e => ?_⟩
          · obtain ⟨kk', r', h1, h2, h3, h4, h5⟩ := ih.1 e
            have hlen3 := h3.len
            refine ⟨kk', r', h1, h2, ⟨by omega, h3.nd, fun x hx => ?_, fun x hx hn' => ?_⟩, h4, ?_⟩
            · rcases h3.new x hx with h | h
              · simp only [List.mem_cons, List.mem_append] at h ⊢
                rcases h with h | h | h
                · exact .inl (.inl h)
                · exact .inl (.inr h)
                · have h6 := hge x h
                  have h7 := hlt2 x (by simp [h])
                  right; omega
              · right; omega
            · simp only [List.mem_cons, not_or] at hn'
              rw [h3.old x (by omega) (by
                simp only [List.mem_cons, List.mem_append, not_or]
                exact ⟨hn'.1, hn'.2, fun h => by have := hge x h; omega⟩), hold x hn'.1 hx]
            · simp only [szK_append, szK, szT] at h5 hsz ⊢; omega
          · rcases ih.2 e with h | h
            · exact .inl h
            · right; simp only [szK_append, szK, szT] at h hsz ⊢; omega
end
end Go.Proofs.YtjpebmgllfiloaaDoor
