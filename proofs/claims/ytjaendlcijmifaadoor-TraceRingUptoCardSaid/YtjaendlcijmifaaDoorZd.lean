/-
  Texts of this claim, one behind the other: Xj, Xk, Xl, Rn, Xn.
-/
import Derived.Test.YtjaendlcijmifaaDoorZc
import Derived.RangeFuncNested
namespace Go.Proofs.YtjaendlcijmifaaDoor
open Go Wk
open Go.RowKit (Below)
attribute [local irreducible] Go.Calls

theorem splitR_sum (c : UInt8) : ∀ l : List UInt8, ((splitR c l).map fun x => x.length + 1).sum = l.length + 1
  | [] => rfl
  | b :: l => by
    have ih := splitR_sum c l
    rw [splitR]
    split
    · rw [List.map_cons, List.sum_cons, ih]; simp; omega
    · have hne := splitR_ne c l
      revert ih hne
      generalize splitR c l = q
      intro ih hne
      cases q with
      | nil => exact absurd rfl hne
      | cons h t => simp only [List.map_cons, List.sum_cons, List.length_cons] at ih ⊢; omega
theorem sum_le_mul {m : Nat} : ∀ {l : List Nat}, (∀ x ∈ l, x ≤ m) → l.sum ≤ l.length * m
  | [], _ => by simp
  | x :: l, h => by
    have h1 := sum_le_mul (l := l) fun y hy => h y (by simp [hy])
    have h2 := h x (by simp)
    rw [List.sum_cons, List.length_cons, Nat.add_mul]; omega
theorem pathM_len {s : List UInt8} (h : pathM s = true) : s.length ≤ 1000 := by
  unfold pathM at h
  rcases Bool.or_eq_true _ _ ▸ h with h | h
  · rw [of_decide_eq_true h]; simp
  · simp only [Bool.and_eq_true, Bool.not_eq_true', List.any_eq_false, decide_eq_true_eq] at h
    obtain ⟨⟨⟨h0, h1⟩, h2⟩, h3⟩ := h
    have hs := splitR_sum 47 s
    have hle : ∀ x ∈ (splitR 47 s).map fun x => x.length + 1, x ≤ 32 := by
      intro x hx
      obtain ⟨y, hy, rfl⟩ := List.mem_map.1 hx
      obtain ⟨k, hk⟩ := List.mem_iff_getElem?.1 hy
      cases k with
      | zero =>
        rw [h0] at hk
        cases hk; simp
      | succ k =>
        have hm : y ∈ (splitR 47 s).drop 1 := List.mem_iff_getElem?.2 ⟨k, by rw [List.getElem?_drop, Nat.add_comm]; exact hk⟩
        have := h3 y hm
        cases hn : nameOk y with
        | false => rw [hn] at this; exact absurd rfl this
        | true =>
          unfold nameOk at hn
          rw [Bool.and_eq_true] at hn
          have := of_decide_eq_true hn.1
          omega
    have := sum_le_mul hle
    rw [List.length_map] at this
    have h4 : (splitR 47 s).length * 32 ≤ 16 * 32 := Nat.mul_le_mul_right _ h2
    omega
theorem goodS : GoodR (one vs) 1 := good_one _ fun _ => rfl
set_option maxHeartbeats 2000000 in
theorem Lines_spec' {w : World} {p : Value} {l : List Ev} (ht : Tb w) (hl : l.length ≤ 1000000) (hw : ∀ e ∈ l, EvW e ∧ e.pa.length ≤ 100000000) (hE : ∀ w', New w w' → Calls Tryd.prog 11 #[p] w' (Ret fun r w'' => SeqAt (fun k => w'.heap.size ≤ k) w'' r l ∧ New w' w'')) :
    Calls Tryd.prog 21 #[p] w (Ret fun r w' => OwnS (one vs) 9 1 (fun b => w.heap.size ≤ b) No w' r (l.map lineM) ∧ New w w') := by
  refine calls_of_Wd Tryd.func21 rfl Tryd.ntmps21 rfl ?_
  (repeat' (first | refine Wl.assignE (by conv => { lhs; whnf }) ?_ | refine Wl.nil ?_ | refine Wd.seq ?_ | refine Qds.normal ?_ | refine Wd.region ?_))
  refine Wl.alloc fun w1 b1 n1 s1 => ?_
  replace b1 : Bk w1 w.heap.size 50 [.slice none 0 0] := b1
  (repeat' (first | refine Wl.moveE (by conv => { lhs; whnf }) ?_ | refine Wl.nil ?_ | refine Wd.seq ?_ | refine Qds.normal ?_ | refine Wd.region ?_))
  refine Wl.call (hE w1 n1) rfl ?_
  intro f w2 hh
  obtain ⟨⟨bs, sv, rfl, hbs, hb2, hr2⟩, n2⟩ := hh
  have b2 := b1.chg n2 (fun e => e)
  have hq2 : SqR (fun k => w1.heap.size ≤ k ∧ k < w2.heap.size) bs sv l w2 := ⟨hb2, hr2.mono (mono_flat _) fun k hk e => ⟨e, hk⟩⟩
  have hbl := hb2.lt
  have n02 := n1.trans n2
  have z1 := n1.size
  have z2 := n2.size
  clear hb2 hr2 b1
  let I : Nat → World → Prop := fun k W => New w W ∧ w2.heap.size ≤ W.heap.size ∧ SqR (fun k => w1.heap.size ≤ k ∧ k < w2.heap.size) bs sv l W ∧ ∃ u, Bk W w.heap.size 50 [u] ∧ OwnS (one vs) 9 1 (fun j => w2.heap.size ≤ j) No W u ((l.take k).map lineM)
  (repeat' (first | refine Wl.nil ?_ | refine Wd.block ?_ | refine Qds.normal ?_))
  refine Wd.range (gf := 55) (lb := #[pT bs]) rfl (fun args _ => run_callFunc inferInstance args) (iter_values (Pb := fun k => w1.heap.size ≤ k ∧ k < w2.heap.size) (bs := bs) (v := sv) (l := l)) I (fun _ _ => False) ?_ ?_ ?_ ?_ ?_ ?_ ?_ ?_ ?_
  · exact fun k W h => h.2.2.1
  · rintro k W W' ⟨h1, h2, h3, u, h4, h5⟩ n
    exact ⟨h1.trans n, Nat.le_trans h2 n.size, h3.new n, u, h4.chg n (fun e => e), h5.new (plain_one _) n⟩
  · rintro k W r r' ⟨h1, h2, h3, u, h4, h5⟩ hL
    exact ⟨h1.put _ (by omega), by simpa using h2, h3.put _ (.loop hL) (by omega), u, h4.put _ (.loop hL), h5.put _ (plain_one _) (.loop hL)⟩
  · exact fun _ _ _ _ h => h.elim
  · intro r
    have n := Chg.loop (w := w2) (.deferred (some [])) (.loop r)
    exact ⟨n02.trans n, n.size, hq2.new n, _, b2.chg n (fun e => e), OwnS.nil⟩
  · rintro k W r hk ⟨h1, h2, h3, u, h4, h5⟩ hL hD
    obtain ⟨y, hy⟩ := get_lt l hk
    obtain ⟨hyw, hyl⟩ := hw y (List.mem_of_getElem? hy)
    show Wr _ _ _ _ _ (upd _ 7 (evV (l.getD k ev0))) W
    rw [getD_of hy]
    (repeat' (refine Wr.region rfl (by repeat' (first | exact Qfn.out (by rintro _ ⟨⟨_, e⟩, _⟩; cases e) | exact Qrd.out | exact Qas.out | refine Qsr.out ?_ | refine Qloop.out ?_ | refine Qsc.out ?_ | refine Qblk.out ?_)) ?_))
    refine Wl.alloc fun W1 c1 m1 t1 => ?_
    refine Wl.storeB (o := 0) (new := evC y) c1 rfl rfl rfl rfl (Nat.le_refl 6) (evC_one _) fun W2 c2 m2 t2 => ?_
    replace c2 : Bk W2 W.heap.size 36 (evC y) := c2
    have m02 : New W W2 := Chg.trans m1 m2 fun _ _ e => by omega
    (repeat' (refine Wl.nil ?_))
    refine ⟨m02, fun r' => ?_⟩
    have nL : NoC W2 (w2.heap.size + 1) := .loop ((m02.block _ (Array.getElem?_eq_some_iff.1 hL).1 id).trans hL)
    have hLt := nL.lt
    have q1 : New w (W2.putObj (w2.heap.size + 1) (.loop r')) := (h1.trans m02).put _ (by omega)
    have q3 := (h3.new m02).put (.loop r') nL (by omega)
    have q4 := (h4.chg m02 (fun e => e)).put (.loop r') nL
    have q5 := (h5.new (plain_one _) m02).put (.loop r') (plain_one _) nL
    have q6 := c2.put (.loop r') nL
    have qL : NoC (W2.putObj (w2.heap.size + 1) (.loop r')) (w2.heap.size + 1) := .loop (World.putObj_heap_same hLt)
    have qD : NoC (W2.putObj (w2.heap.size + 1) (.loop r')) w2.heap.size := .mark ((World.putObj_heap_other (by omega)).trans ((m02.block _ (Array.getElem?_eq_some_iff.1 hD).1 id).trans hD))
    have hu1 : ∀ j, u.ownBlock = some j → w2.heap.size ≤ j ∧ j < W.heap.size := fun j e => h5.lt e
    generalize W2.putObj (w2.heap.size + 1) (.loop r') = W3 at *
    clear m1 m2 c1 c2 h1 h3 h4 h5
    have zW := q1.size
    have zL := qL.lt
    have z6 := q6.lt
    obtain ⟨ua, ucp, hu0, _⟩ := q5.form
    (repeat' (refine Wr.block ?_))
    refine Wr.regionT rfl (by repeat' (first | exact Qfn.out (by rintro _ ⟨⟨_, e⟩, _⟩; cases e) | exact Qrd.out | exact Qas.out | refine Qsr.out ?_ | refine Qloop.out ?_ | refine Qsc.out ?_ | refine Qblk.out ?_)) rfl (by kernel_rfl) (fun W' => Chg (fun j => u.ownBlock = some j) W3 W') (Chg.drew _ _) ?_
    intro W4 m4
    have bk4 : ∀ W', Chg (fun j => u.ownBlock = some j) W3 W' → Bk W' w.heap.size 50 [u] := fun W' c => q4.chg c fun e => by have := hu1 _ e; omega
    skip
    refine Wt.quiet rfl (Wq.load1 rfl (fun W' c => (bk4 W' c).cell (o := 0) rfl) (Wq.nil ?_))
    refine Wt.quiet rfl (Wq.loadAt (fun W' c => (q6.chg c fun e => by have := hu1 _ e; omega).at) rfl rfl (Wq.nil ?_))
    refine Wt.chain rfl (Wl.call (line_spec (ht.new (q1.trans m4)) hyw hyl) rfl ?_)
    rintro _ W5 ⟨rfl, m5⟩
    replace m5 := m4.trans m5
    refine Wl.nil ⟨rfl, m5.any, ?_⟩
    refine Wt.chain rfl (Wl.buildSlice1 (R := one vs) (Pe := No) (y := lineM y) goodS rfl rfl rfl rfl (by omega) (by omega) fun v6 W6 o6 n6 s6 e6 => ?_)
    have m6 := m5.trans n6
    refine Wl.nil ⟨rfl, m6.any, ?_⟩
    refine Wt.chain rfl (Wl.appendAll (R := one vs) goodS (q5.new (plain_one _) m6) (o6.rd goodS.mo) (fun y cs hy => hy) rfl rfl (by omega) (by simp only [maxLen, List.length_map, List.length_take, List.length_singleton]; omega) (by simp only [List.length_map, List.length_take, List.length_singleton]; omega) fun u' W7 o7 c7 lie _ => ?_)
    rw [show (l.take k).map lineM ++ [lineM y] = (l.take (k + 1)).map lineM by rw [take_snoc' hy, List.map_append]; rfl] at o7
    have c37 : Chg (fun j => u.ownBlock = some j) W3 W7 := Chg.trans m6.any c7 fun _ _ e => e
    refine Wl.nil ⟨rfl, c37, ?_⟩
    have zm6 := m6.size
    have hu' : ∀ j, u'.ownBlock = some j → j ≠ w.heap.size := by
      intro j e
      rcases lie with lie | lie
      · rw [lie] at e; have := hu1 j e; omega
      · have := lie j e; omega
    refine Wt.last rfl (Wl.store1 (bk4 W7 c37) rfl (by simp) rfl (by obtain ⟨_, _, rfl, _⟩ := o7.form; rfl) fun W8 q8 d8 => ?_)
    have z7 := c7.size
    have z8 := d8.size
    have e38 : Chg (fun j => u.ownBlock = some j ∨ j = w.heap.size) W3 W8 := Chg.trans (c37.mono fun _ _ e => .inl e) (d8.mono fun _ _ e => .inr e) fun _ _ e => e
    (repeat' (first | refine Wl.nil ?_ | refine Qblk.normal ?_))
    refine ⟨e38.block _ qL.lt ?_, e38.block _ qD.lt ?_, Chg.trans q1 e38 fun j hj e => ?_, by omega, q3.chg e38 ?_ ?_, u', q8, ?_⟩
    · rintro (e | e)
      · exact q5.nl qL e rfl
      · omega
    · rintro (e | e)
      · exact q5.nl qD e rfl
      · omega
    · rcases e with e | e
      · have := hu1 j e; omega
      · omega
    · rintro (e | e)
      · have := hu1 _ e; omega
      · omega
    · rintro j hj (e | e)
      · have := hu1 _ e; omega
      · omega
    · exact (o7.chg (plain_one _) d8 fun j e e' => hu' j e e').mono goodS.mo (fun j _ e => by rcases e with e | e <;> omega) fun _ _ e => e
  · rintro W ⟨h1, h2, h3, u, h4, h5⟩ hD
    rw [List.take_length] at h5
    (repeat' (first | refine Wd.seq ?_ | refine Qds.normal ?_ | refine Qdb.normal ?_ | refine Wd.region ?_))
    refine Wl.load1 rfl (h4.cell (o := 0) rfl) ?_
    (repeat' (first | refine Wl.assignE (by conv => { lhs; whnf }) ?_ | refine Wl.nil ?_ | refine Qds.normal ?_ | refine Wd.ret ?_))
    refine Lv.mark (by simp) hD ?_
    have nD : NoC W w2.heap.size := .mark hD
    refine Lv.ret (v := u) (results1 rfl (rvOf_tmp rfl)) ⟨_, rfl, (h5.put _ (plain_one _) nD).mono goodS.mo (fun j _ e => by omega) (fun _ _ e => e), h1.put _ (by omega)⟩
  · exact fun _ h => h.elim
  · exact fun _ _ h => h.elim
theorem TrOk.evs {t : Tr} (h : TrOk t) : ∀ e ∈ t.kept, EvW e ∧ e.pa.length ≤ 100000000 := fun e he => by
  obtain ⟨h1, _, h3⟩ := h.ok e he
  exact ⟨h1, by have := pathM_len h3; omega⟩
def linesM (t : Tr) : List (List UInt8) := t.kept.map lineM
theorem Lines_spec {Pb : Nat → Prop} {w : World} {b : Nat} {t : Tr} (ht : Tb w) (h : Rg Pb w b t) : Calls Tryd.prog 21 #[pT b] w (Ret fun r w' => OwnS (one vs) 9 1 (fun b => w.heap.size ≤ b) No w' r (linesM t) ∧ New w w') :=
  Lines_spec' ht (by have := h.ok.len; have := h.ok.s1; omega) h.ok.evs fun w' n => Each_spec (h.new n)
theorem Lines_nil {w : World} (ht : Tb w) : Calls Tryd.prog 21 #[.pointer none] w (Ret fun r w' => OwnS (one vs) 9 1 (fun b => w.heap.size ≤ b) No w' r [] ∧ New w w') :=
  Lines_spec' (l := []) ht (by simp) (fun e he => by simp at he) fun w' n => Each_nil
theorem neqL {α : Type} {a b : List α} {x y : α} {i : Nat} (ha : a[i]? = some x) (hb : b[i]? = some y) (h : x ≠ y) : a ≠ b := by
  rintro rfl
  rw [ha] at hb
  exact h (Option.some.inj hb)
theorem take_full {α : Type} {a b : List α} {i : Nat} (hl : a.length = b.length) (hi : i = a.length) (h : a.take i = b.take i) : a = b := by
  subst hi
  rw [List.take_length, hl, List.take_length] at h; exact h
theorem take_both {α : Type} {a b : List α} {x : α} {i : Nat} (h : a.take i = b.take i) (ha : a[i]? = some x) (hb : b[i]? = some x) : a.take (i + 1) = b.take (i + 1) := by
  rw [take_snoc' ha, take_snoc' hb, h]
theorem texts_spec {Pb Pc : Nat → Prop} {w : World} {u v : Value} {a b : List (List UInt8)} (h : RdS (one vs) 1 Pb w u a) (h' : RdS (one vs) 1 Pc w v b) :
    Calls Tryd.prog 22 #[u, v] w (Ret fun r w' => r = .bool (decide (a = b)) ∧ New w w') := by
  obtain ⟨p, cp, rfl, hc1, hc2⟩ := h.form
  obtain ⟨q, cq, rfl, hd1, hd2⟩ := h'.form
  simp only [maxLen] at hc2 hd2
  refine calls_of_Wc Tryd.func22 rfl Tryd.ntmps22 rfl ?_
  (repeat' (first | refine Wl.moveE (by conv => { lhs; whnf }) ?_ | refine Wl.assignE (by conv => { lhs; whnf }) ?_ | refine Wl.nil ?_ | refine Wl.lenS rfl ?_ | refine Qseq.normal ?_ | refine Wc.seq ?_ | refine Wc.region ?_ | refine Wc.block ?_ | refine Wc.skip ?_ | refine Wc.ret ?_ | refine Qseq.ret ?_ | refine Wc.condT rfl ?_ | refine Wc.condF rfl ?_ | refine Wl.neq rfl rfl (fun _ => ?_) (fun _ => ?_)))
  · refine Qfn.ret1 rfl rfl ⟨_, rfl, ?_, Chg.refl _ _⟩
    rw [decide_eq_false (fun e => by subst e; omega)]; rfl
  · have hl : a.length = b.length := by omega
    refine Wc.loop (σ := Nat) (fun i => [(0, .slice p a.length cp), (1, .slice q b.length cq), (5, vi i)]) (fun i w' => i ≤ a.length ∧ a.take i = b.take i ∧ New w w') (fun i => a.length - i) 0 ⟨rfl, rfl, rfl, trivial⟩ ⟨Nat.zero_le _, rfl, Chg.refl _ _⟩ ?_
    rintro i G w1 ⟨hi, he, n1⟩
    simp only [upds]
    have g := h.keep (stable_one _) n1.keep
    have g' := h'.keep (stable_one _) n1.keep
    (repeat' (first | refine Wl.moveE (by conv => { lhs; whnf }) ?_ | refine Wl.assignE (by conv => { lhs; whnf }) ?_ | refine Wl.nil ?_ | refine Wl.lenS rfl ?_ | refine Qseq.normal ?_ | refine Wc.seq ?_ | refine Wc.region ?_ | refine Wc.block ?_ | refine Wc.skip ?_ | refine Wc.exit ?_ | refine Wc.ret ?_ | refine Qseq.exit ?_ | refine Qblk.hit ?_ | refine Qloop.exit ?_ | refine Wc.condT rfl ?_ | refine Wc.condF rfl ?_ | refine Wl.lss rfl rfl (fun _ => ?_) (fun _ => ?_)))
    · obtain ⟨x, hx⟩ := get_lt a (k := i) (by omega)
      obtain ⟨y, hy⟩ := get_lt b (k := i) (by omega)
      refine Wc.regionN rfl (by kernel_rfl) ?_
      (repeat' (refine Wq.moveE (by conv => { lhs; whnf }) ?_))
      refine Wq.idxAddrV g (fun w' n => n.keep) rfl rfl (by omega) (by rw [Int.toNat_natCast]; exact hx) fun bb o hc => ?_
      refine Wq.load1 rfl hc ?_
      (repeat' (refine Wq.moveE (by conv => { lhs; whnf }) ?_))
      refine Wq.idxAddrV g' (fun w' n => n.keep) rfl rfl (by omega) (by rw [Int.toNat_natCast]; exact hy) fun bb' o' hc' => ?_
      refine Wq.load1 rfl hc' ?_
      (repeat' (first | refine Wq.nil ?_ | refine Wq.sneq rfl rfl (fun _ => ?_) (fun _ => ?_)))
      · intro w2 n2
        have hne : x ≠ y := by assumption
        (repeat' (first | refine Wl.assignE (by conv => { lhs; whnf }) ?_ | refine Wl.nil ?_ | refine Qseq.normal ?_ | refine Wc.seq ?_ | refine Wc.region ?_ | refine Wc.ret ?_ | refine Qseq.ret ?_ | refine Qblk.ret ?_ | refine Qloop.ret ?_ | refine Wc.condT rfl ?_))
        refine Qfn.ret1 rfl rfl ⟨_, rfl, ?_, n1.trans n2⟩
        rw [decide_eq_false (neqL hx hy hne)]; rfl
      · intro w2 n2
        have hxy : x = y := by assumption
        subst hxy
        (repeat' (first | refine Wl.moveE (by conv => { lhs; whnf }) ?_ | refine Wl.assignE (by conv => { lhs; whnf }) ?_ | refine Wl.nil ?_ | refine Qseq.normal ?_ | refine Wc.region ?_ | refine Wc.skip ?_ | refine Qblk.normal ?_ | refine Wc.condF rfl ?_ | refine Wl.add rfl rfl (by omega) (by omega) ?_))
        exact Qloop.normal (i + 1) ⟨rfl, rfl, rfl, trivial⟩ ⟨by omega, take_both he hx hy, n1.trans n2⟩ (by omega)
    · refine Qfn.ret1 rfl rfl ⟨_, rfl, ?_, n1⟩
      rw [decide_eq_true (take_full hl (by omega) he)]; rfl
end Go.Proofs.YtjaendlcijmifaaDoor

namespace Go.Proofs.YtjaendlcijmifaaDoor
open Go Wk
open Go.RowKit (Below)
attribute [local irreducible] Go.Calls

theorem nat_dig {u : Nat} (h : u < 10) : decN u = [UInt8.ofNat (48 + u)] := Lib.decDigits_one h
theorem nat_dig2 {u : Nat} (h1 : ¬ u < 10) (h2 : u < 100) : decN u = [UInt8.ofNat (48 + u / 10), UInt8.ofNat (48 + u % 10)] := Lib.decDigits_two h1 h2
theorem int_dig (u : Nat) : decI (u : Int) = decN u := Lib.itoa_nonneg u
def aw1 : Tr := ⟨3, 0, [⟨1, 0, 10, 1, [47, 97], 0⟩]⟩
def aw2 : Tr := ⟨3, 0, [⟨1, 0, 10, 1, [47, 97], 0⟩, ⟨2, 1, 12, 3, [47, 97], 5⟩]⟩
theorem pathA : pathM [47, 97] = true := by decide
theorem aw1_add : (⟨3, 0, []⟩ : Tr).add 0 10 1 [47, 97] 0 = (1, 0, aw1) := by
  unfold Tr.add
  rw [if_neg (by simp [Tr.last, pathA]; decide), if_neg (by simp [Tr.last])]
  rfl
theorem aw2_add : aw1.add 1 12 3 [47, 97] 5 = (2, 0, aw2) := by
  unfold Tr.add
  rw [if_neg (by simp [Tr.last, aw1, pathA]; decide), if_neg (by simp [Tr.last, aw1])]
  rfl
theorem aw_lines : linesM aw2 = [[49, 32, 49, 48, 32, 98, 105, 110, 100, 32, 47, 97, 32, 48], [50, 32, 49, 50, 32, 111, 110, 32, 47, 97, 32, 53, 32, 98, 121, 32, 49]] := by
  have e0 : decI 0 = [48] := (int_dig 0).trans (nat_dig (by omega))
  have e5 : decI 5 = [53] := (int_dig 5).trans (nat_dig (by omega))
  have e10 : decI 10 = [49, 48] := (int_dig 10).trans (nat_dig2 (by omega) (by omega))
  have e12 : decI 12 = [49, 50] := (int_dig 12).trans (nat_dig2 (by omega) (by omega))
  have d1 : decN 1 = [49] := nat_dig (by omega)
  have d2 : decN 2 = [50] := nat_dig (by omega)
  simp only [linesM, aw2, List.map_cons, List.map_nil, lineM, lineH, e0, e5, e10, e12, d1, d2]
  rfl
set_option maxHeartbeats 1000000 in
theorem awake_spec {w : World} (ht : Tb w) : Calls Tryd.prog 13 #[] w (Ret fun r w' => r = .bool true ∧ New w w') := by
  refine calls_of_Wc Tryd.func13 rfl Tryd.ntmps13 rfl ?_
  (repeat' (first | refine Wl.assignE (by conv => { lhs; whnf }) ?_ | refine Wl.nil ?_ | refine Qseq.normal ?_ | refine Wc.seq ?_ | refine Wc.region ?_))
  refine Wl.call (New_spec (n := 3)) rfl ?_
  rintro r w1 ⟨hr, n1⟩
  rcases hr with ⟨hr, _⟩ | ⟨_, _, b, rfl, h1⟩
  · omega
  have z1 := n1.size
  replace h1 : Rg (fun k => w.heap.size ≤ k) w1 b ⟨3, 0, []⟩ := h1
  (repeat' (first | refine Wl.moveE (by conv => { lhs; whnf }) ?_ | refine Wl.assignE (by conv => { lhs; whnf }) ?_ | refine Wl.nil ?_ | refine Wl.extract rfl rfl ?_ | refine Qseq.normal ?_ | refine Wc.seq ?_ | refine Wc.region ?_))
  refine Wl.call (Add_spec (ca := 0) (tm := 10) (kd := 1) (pa := [47, 97]) (ar := 0) h1 ⟨by omega, by omega, by omega, by omega, by omega, by omega⟩ (by simp)) rfl ?_
  rintro _ w2 ⟨rfl, h2, c2⟩
  rw [aw1_add] at h2 ⊢
  have n2 : New w w2 := Chg.trans n1 c2 fun k hk e => by omega
  have z2 := n2.size
  (repeat' (first | refine Wl.moveE (by conv => { lhs; whnf }) ?_ | refine Wl.assignE (by conv => { lhs; whnf }) ?_ | refine Wl.nil ?_ | refine Wl.extract rfl rfl ?_ | refine Qseq.normal ?_ | refine Wc.seq ?_ | refine Wc.region ?_))
  refine Wl.call (Add_spec (ca := 1) (tm := 12) (kd := 3) (pa := [47, 97]) (ar := 5) (h2.mono (Pb' := fun k => w.heap.size ≤ k) fun k _ e => by rcases e with e | e <;> omega) ⟨by omega, by omega, by omega, by omega, by omega, by omega⟩ (by simp)) rfl ?_
  rintro _ w3 ⟨rfl, h3, c3⟩
  rw [aw2_add] at h3 ⊢
  have n3 : New w w3 := Chg.trans n2 c3 fun k hk e => by omega
  have z3 := n3.size
  (repeat' (first | refine Wl.moveE (by conv => { lhs; whnf }) ?_ | refine Wl.assignE (by conv => { lhs; whnf }) ?_ | refine Wl.nil ?_ | refine Wl.extract rfl rfl ?_ | refine Wl.guardY rfl rfl ?_ | refine Wl.pickTE rfl (by conv => { lhs; whnf }) ?_ | refine Qseq.normal ?_ | refine Wc.seq ?_ | refine Wc.region ?_ | (refine Wl.eql rfl rfl (fun _ => ?_) (fun _ => ?_) <;> (first | (exfalso; omega) | (exfalso; contradiction) | skip))))
  refine Wl.call (Lines_spec (ht.new n3) h3) rfl ?_
  rintro l w4 ⟨o4, n4⟩
  rw [aw_lines] at o4
  have r4 := o4.rd goodS.mo
  (repeat' (refine Wl.guardY rfl rfl ?_))
  refine Wl.buildSliceN (R := one vs) (Pe := fun _ => True) (xs := [[49, 32, 49, 48, 32, 98, 105, 110, 100, 32, 47, 97, 32, 48], [50, 32, 49, 50, 32, 111, 110, 32, 47, 97, 32, 53, 32, 98, 121, 32, 49]]) (us := [vs [49, 32, 49, 48, 32, 98, 105, 110, 100, 32, 47, 97, 32, 48], vs [50, 32, 49, 50, 32, 111, 110, 32, 47, 97, 32, 53, 32, 98, 121, 32, 49]]) goodS rfl rfl ⟨rfl, rfl, rfl, rfl, trivial⟩ (by simp) (by simp) fun v5 w5 o5 n5 s5 e5 => ?_
  (repeat' (refine Wl.guardY rfl rfl ?_))
  refine Wl.call (texts_spec (r4.keep (stable_one _) n5.keep) (o5.rd goodS.mo)) rfl ?_
  rintro _ w6 ⟨rfl, n6⟩
  rw [decide_eq_true rfl]
  (repeat' (first | refine Wl.assignE (by conv => { lhs; whnf }) ?_ | refine Wl.nil ?_ | refine Wl.pickTE rfl (by conv => { lhs; whnf }) ?_ | refine Qseq.normal ?_ | refine Wc.ret ?_))
  exact Qfn.ret1 rfl rfl ⟨_, rfl, rfl, ((n3.trans n4).trans n5).trans n6⟩
end Go.Proofs.YtjaendlcijmifaaDoor

namespace Go.Proofs.YtjaendlcijmifaaDoor
open Go Wk
open Go.RowKit (Below)

/-- An event, but for its numbers. -/
def sg (e : Ev) : Int × Nat × List UInt8 × Int := (e.tm, e.kd, e.pa, e.ar)
structure RingInv (n p i : Nat) (ta tb : Tr) : Prop where
  oa : TrOk ta
  ob : TrOk tb
  sa : ta.size = n
  sb : tb.size = n
  lb : tb.last = p
  la : ta.last ≤ 20 + i
  pi : p ≤ i
  suf : tb.kept.map sg <:+ ta.kept.map sg
  zero : p = 0 → ∀ y, ta.kept.getLast? = some y → y.tm ≤ 0
theorem suffix_last {α β : Type} {f : α → β} {a b : List α} (h : b.map f <:+ a.map f) {y : α} (hy : b.getLast? = some y) : ∃ x, a.getLast? = some x ∧ f x = f y := by
  obtain ⟨pre, hp⟩ := h
  have h1 : (a.map f).getLast? = some (f y) := by
    rw [← hp, List.getLast?_append, List.getLast?_map, hy]; rfl
  rw [List.getLast?_map] at h1
  cases ha : a.getLast? with
  | none => rw [ha] at h1; cases h1
  | some x =>
    rw [ha] at h1
    exact ⟨x, rfl, Option.some.inj h1⟩
theorem suffix_snoc {α : Type} {a b : List α} {x : α} (h : b <:+ a) : b ++ [x] <:+ a ++ [x] := by
  obtain ⟨pre, rfl⟩ := h
  exact ⟨pre, by rw [List.append_assoc]⟩
theorem suffix_drop {α : Type} {a b : List α} (h : b <:+ a) (hl : b.length < a.length) : b <:+ a.drop 1 := by
  obtain ⟨pre, rfl⟩ := h
  cases pre with
  | nil => simp at hl
  | cons c pre => exact ⟨pre, rfl⟩
theorem suffix_full {α : Type} {a b : List α} (h : b <:+ a) (hl : a.length ≤ b.length) : b = a := List.IsSuffix.eq_of_length_le h hl
theorem late_eq {n p i : Nat} {ta tb : Tr} (h : RingInv n p i ta tb) {at' : Int} (h0 : 0 ≤ at') : ta.late at' = tb.late at' := by
  unfold Tr.late
  cases hb : tb.kept.getLast? with
  | none =>
    have hb0 : tb.kept = [] := List.getLast?_eq_none_iff.1 hb
    have hg : tb.gone = 0 := by
      rcases Nat.eq_zero_or_pos tb.gone with h1 | h1
      · exact h1
      · have := h.ob.full h1
        have := h.ob.s0
        rw [hb0] at *
        simp at *; omega
    have hp : p = 0 := by rw [← h.lb]; unfold Tr.last; rw [hb0, hg]; rfl
    cases ha : ta.kept.getLast? with
    | none => rfl
    | some y =>
      have := h.zero hp y ha
      dsimp only; omega
  | some y =>
    obtain ⟨x, hx, he⟩ := suffix_last h.suf hb
    rw [hx]
    have : x.tm = y.tm := congrArg Prod.fst he
    dsimp only; rw [this]
theorem put_kept (t : Tr) (x : Ev) : (t.put x).kept = (if t.kept.length < t.size then t.kept else t.kept.drop 1) ++ [x] := by
  unfold Tr.put; split <;> rfl
theorem ring_step {n p i : Nat} {ta tb : Tr} (h : RingInv n p i ta tb) (hi : i < 100) {tm : Int} {kd : Nat} {pa : List UInt8} {ar : Int} (hw : InW 0 tm kd ar) (h0 : 0 ≤ tm) :
    (ta.add 0 tm kd pa ar).2.1 = (tb.add 0 tm kd pa ar).2.1 ∧
    ((ta.add 0 tm kd pa ar).2.1 = 0 → RingInv n (p + 1) (i + 1) (ta.add 0 tm kd pa ar).2.2 (tb.add 0 tm kd pa ar).2.2) ∧
    ((ta.add 0 tm kd pa ar).2.1 ≠ 0 → RingInv n p (i + 1) (ta.add 0 tm kd pa ar).2.2 (tb.add 0 tm kd pa ar).2.2) := by
  have oa' := h.oa.add hw (pa := pa)
  have ob' := h.ob.add hw (pa := pa)
  have hla := h.la
  have hlb := h.lb
  have hpi := h.pi
  have late := late_eq h h0
  unfold Tr.add at *
  by_cases hb : nameK kd = [] ∨ pathM pa = false
  · rw [if_pos (.inr hb)] at oa' ⊢
    rw [if_pos (.inr hb)] at ob' ⊢
    refine ⟨rfl, fun e => ?_, fun _ => ⟨h.oa, h.ob, h.sa, h.sb, h.lb, Nat.le_succ_of_le h.la, Nat.le_succ_of_le h.pi, h.suf, h.zero⟩⟩
    exact absurd e (by simp)
  · rw [if_neg (by rintro (e | e); exact absurd e (by omega); exact hb e), if_neg (by omega)] at oa' ⊢
    rw [if_neg (by rintro (e | e); exact absurd e (by omega); exact hb e), if_neg (by omega)] at ob' ⊢
    refine ⟨rfl, fun _ => ?_, fun e => absurd rfl e⟩
    dsimp only at oa' ob' ⊢
    have s0 := h.oa.s0
    have s0b := h.ob.s0
    have hsa := h.sa
    have hsb := h.sb
    have hlen := h.oa.len
    have hlenb := h.ob.len
    have hsl := h.suf.length_le
    rw [List.length_map, List.length_map] at hsl
    refine ⟨oa', ob', by rw [put_size]; exact h.sa, by rw [put_size]; exact h.sb, ?_, ?_, by omega, ?_, fun e => by omega⟩
    · rw [put_last _ _ (by omega)]; omega
    · rw [put_last _ _ (by omega)]; omega
    · rw [put_kept, put_kept, List.map_append, List.map_append]
      have e : ([⟨ta.last + 1, 0, ta.late tm, kd, pa, ar⟩] : List Ev).map sg = ([⟨tb.last + 1, 0, tb.late tm, kd, pa, ar⟩] : List Ev).map sg := by
        simp only [List.map_cons, List.map_nil, sg, late]
      rw [e]
      refine suffix_snoc ?_
      by_cases h1 : tb.kept.length < tb.size
      · rw [if_pos h1]
        by_cases h2 : ta.kept.length < ta.size
        · rw [if_pos h2]; exact h.suf
        · rw [if_neg h2, List.map_drop]
          exact suffix_drop h.suf (by rw [List.length_map, List.length_map]; omega)
      · have h2 : ¬ ta.kept.length < ta.size := by omega
        rw [if_neg h1, if_neg h2, List.map_drop, List.map_drop, suffix_full h.suf (by rw [List.length_map, List.length_map]; omega)]
        exact List.suffix_rfl
theorem ring_len {n p i : Nat} {ta tb : Tr} (h : RingInv n p i ta tb) (hp : n ≤ p) : tb.kept.length = n ∧ ta.kept.length = n ∧ tb.kept.map sg = ta.kept.map sg := by
  have hsa := h.sa
  have hsb := h.sb
  have hlen := h.oa.len
  have hlenb := h.ob.len
  have hsl := h.suf.length_le
  rw [List.length_map, List.length_map] at hsl
  have hlb := h.lb
  have hb : tb.kept.length = n := by
    rcases Nat.eq_zero_or_pos tb.gone with h1 | h1
    · unfold Tr.last at hlb; omega
    · have := h.ob.full h1; omega
  have ha : ta.kept.length = n := by omega
  exact ⟨hb, ha, suffix_full h.suf (by rw [List.length_map, List.length_map]; omega)⟩
/-- Ahead of the others: events at no time. -/
structure AheadInv (n i : Nat) (ta : Tr) : Prop where
  oa : TrOk ta
  sa : ta.size = n
  la : ta.last ≤ i
  tm : ∀ y ∈ ta.kept, y.tm ≤ 0
theorem ahead_step {n i : Nat} {ta : Tr} (h : AheadInv n i ta) {kd : Nat} {pa : List UInt8} {ar : Int} (hw : InW 0 0 kd ar) : AheadInv n (i + 1) (ta.add 0 0 kd pa ar).2.2 := by
  refine ⟨h.oa.add hw, (add_size ta 0 0 kd pa ar).trans h.sa, ?_, ?_⟩
  · have := h.la
    have s0 := h.oa.s0
    unfold Tr.add
    split
    · exact Nat.le_succ_of_le h.la
    · split
      · exact Nat.le_succ_of_le h.la
      · dsimp only; rw [put_last _ _ (by omega)]; omega
  · unfold Tr.add
    split
    · exact h.tm
    · split
      · exact h.tm
      · dsimp only
        rw [put_kept]
        intro y hy
        rcases List.mem_append.1 hy with hy | hy
        · split at hy
          · exact h.tm y hy
          · exact h.tm y (List.mem_of_mem_drop hy)
        · rw [List.mem_singleton.1 hy]
          show ta.late 0 ≤ 0
          unfold Tr.late
          cases hq : ta.kept.getLast? with
          | none => exact Int.le_refl _
          | some z =>
            have := h.tm z (List.mem_of_getLast? hq)
            dsimp only; omega
theorem ahead_ring {n i : Nat} {ta : Tr} (h : AheadInv n i ta) (hi : i ≤ 20) (h0 : 1 ≤ n) (h1 : n ≤ 4096) : RingInv n 0 0 ta ⟨n, 0, []⟩ :=
  ⟨h.oa, TrOk.new h0 h1, h.sa, rfl, rfl, by have := h.la; omega, Nat.le_refl _, List.nil_suffix, fun _ y hy => h.tm y (List.mem_of_getLast? hy)⟩
end Go.Proofs.YtjaendlcijmifaaDoor

namespace Go.Proofs.YtjaendlcijmifaaDoor.Wk
open Go Go.RowKit

section
variable {P : Program} {n : Nat} {Q : Po} {F : Fr} {w : World}
theorem Wr.range {r0 : Nat} {rc : Loop} (hr0 : w.heap[r0]? = some (.loop rc)) {g : Operand} {p : Nat} {assign body : Code} {gf : Nat} {lb : Array Value} {N : Nat} {x : Nat → Value} {Rd : World → Prop}
    (hg : ev n F g = .func (.func gf) #[] lb) (eg : ∀ args w, (callFunc gf args).run P w = .ok (.enter gf args) w) (it : Iter P gf lb N x Rd)
    (I : Nat → World → Prop) (Ix : Code → World → Prop)
    (hRd : ∀ k W, I k W → Rd W)
    (sN : ∀ k W W', I k W → New W W' → I k W')
    (sI : ∀ k W r r', I k W → W.heap[w.heap.size]? = some (.loop r) → I k (W.putObj w.heap.size (.loop r')))
    (sX : ∀ c W r r', Ix c W → W.heap[w.heap.size]? = some (.loop r) → Ix c (W.putObj w.heap.size (.loop r')))
    (h0 : ∀ r, I 0 (w.alloc (.loop r)))
    (hround : ∀ k W r, k < N → I k W → W.heap[w.heap.size]? = some (.loop r) →
      Wr P n (some w.heap.size) (Qas fun F' W' => New W W' ∧ ∀ r', Wr P n (some w.heap.size) (Qrd w.heap.size w.heap.size (W'.putObj w.heap.size (.loop r')) (I (k + 1)) Ix) body F' (W'.putObj w.heap.size (.loop r'))) assign (upd F p (x k)) W)
    (hdone : ∀ W, I N W → Q .normal F W)
    (hret : ∀ W, Ix .ret W → Q .ret F W)
    (hexit : ∀ id W, Ix (.exit id) W → Q (.exit id) F W) :
    Wr P n (some r0) Q (.rangeFunc g #[p] assign body) F w := by
  unfold Wr
  refine wpIn_rangeFunc ?_
  intro fn _
  obtain ⟨rec, hrec⟩ : ∃ rec : LoopState → Option Code → Loop, rec = fun st pe => { state := st, pending := pe, fn, tmps := arr n F, params := #[p], assign, body, defers := rc.defers } := ⟨_, rfl⟩
  obtain ⟨W1, hW1⟩ : ∃ W1, w.alloc (.loop (rec .ready none)) = W1 := ⟨_, rfl⟩
  have hL1 : W1.heap[w.heap.size]? = some (.loop (rec .ready none)) := by
    rw [← hW1]; exact World.alloc_heap_new w _
  have hI1 : I 0 W1 := by rw [← hW1]; exact h0 _
  refine ⟨w.heap.size, [], W1, { target := .fn (.func gf) lb, args := #[.func (.yield w.heap.size) #[] #[]] }, W1, gf,
    #[.func (.yield w.heap.size) #[] #[]] ++ lb, W1, ?_, ?_, ?_, ?_, fun h => by simp [FR, Fence.wide] at h, ?_⟩
  · rw [← hW1, hrec]; exact run_enterLoop_inner hr0 _ _ _ _ _
  · simp only [resolve, act_eval, hg]
    simp [go_sem]
  · exact fun _ _ => trivial
  · simp [invoke, go_sem, eg]
  · refine CallsIn.mono (show CallsIn (FR (some r0)) (0 - 1) P gf _ W1 _ from it w.heap.size
      (fun k W => I k W ∧ W.heap[w.heap.size]? = some (.loop (rec .ready none)))
      (fun W => ∃ c, (c = .ret ∨ ∃ id, c = .exit id) ∧ Ix c W ∧ W.heap[w.heap.size]? = some (.loop (rec .done (some c))))
      W1 (fun k W h => hRd k W h.1) (fun k W W' h n => ⟨sN k W W' h.1 n, (n.block _ (Array.getElem?_eq_some_iff.1 h.2).1 id).trans h.2⟩) ?_ ⟨hI1, hL1⟩) ?_
    · -- one round
      rintro k W hk ⟨hi, hl⟩
      have hlt : w.heap.size < W.heap.size := (Array.getElem?_eq_some_iff.1 hl).1
      have hy := run_yield (P := P) (args := #[x k]) hl (by rw [hrec]; rfl)
      rw [hrec] at hy
      have hz : ((#[p].zip #[x k]).foldl (fun tmps (t, a) => tmps.setIfInBounds t a) (arr n F)) = arr n (upd F p (x k)) := by
        simp [arr_put]
      refine ⟨fn, _, assign, body, hy, roundIn_of_wpIn (F := Fence.wide) (n := 0) trivial ?_⟩
      dsimp only
      rw [hz]
      have hA := hround k W _ hk hi hl
      unfold Wr at hA
      refine wpIn_mono hA ?_
      rintro e a w1 ⟨F', rfl, hq⟩
      cases e with
      | normal =>
        obtain ⟨hn, hq⟩ := hq
        have hl' := (hn.block _ hlt id).trans hl
        have hlt' : w.heap.size < w1.heap.size := (Array.getElem?_eq_some_iff.1 hl').1
        refine ⟨_, run_beginRound hl' (by rw [hrec]), ?_⟩
        have hl2 : (w1.putObj w.heap.size (.loop { rec .ready none with state := .busy })).heap[w.heap.size]? = some (.loop { rec .ready none with state := .busy }) := World.putObj_heap_same hlt'
        have hB := hq { rec .ready none with state := .busy }
        unfold Wr at hB
        refine wpIn_mono hB ?_
        have fin : ∀ (jump : Option Code) (W3 : World), W3.heap[w.heap.size]? = some (.loop { rec .ready none with state := .busy }) →
            (Instr.endRound w.heap.size jump).run P W3 = .ok (.bool jump.isNone) (W3.putObj w.heap.size (.loop (rec (if jump.isNone then .ready else .done) jump))) ∧
            (W3.putObj w.heap.size (.loop (rec (if jump.isNone then .ready else .done) jump))).heap[w.heap.size]? = some (.loop (rec (if jump.isNone then .ready else .done) jump)) := fun jump W3 h3 => by
          have := run_endRound (P := P) jump h3
          rw [hrec] at this ⊢
          exact ⟨this, World.putObj_heap_same (Array.getElem?_eq_some_iff.1 h3).1⟩
        rintro e a3 W3 ⟨F3, rfl, hq3⟩
        cases e with
        | normal =>
          obtain ⟨h3, _, h5⟩ := hq3
          obtain ⟨hr, hl4⟩ := fin none W3 (h3.trans hl2)
          exact ⟨_, _, hr, .inl ⟨rfl, sI _ _ _ _ h5 (h3.trans hl2), hl4⟩⟩
        | ret =>
          obtain ⟨h3, _, h5⟩ := hq3
          obtain ⟨hr, hl4⟩ := fin (some .ret) W3 (h3.trans hl2)
          exact ⟨_, _, hr, .inr ⟨rfl, .ret, .inl rfl, sX _ _ _ _ h5 (h3.trans hl2), hl4⟩⟩
        | exit id =>
          obtain ⟨h3, _, h5⟩ := hq3
          obtain ⟨hr, hl4⟩ := fin (some (.exit id)) W3 (h3.trans hl2)
          exact ⟨_, _, hr, .inr ⟨rfl, .exit id, .inr ⟨id, rfl⟩, sX _ _ _ _ h5 (h3.trans hl2), hl4⟩⟩
        | goto t => exact hq3.elim
        | panic ch => exact hq3.elim
        | outgrown => exact hq3.elim
      | exit id => exact hq.elim
      | goto t => exact hq.elim
      | ret => exact hq.elim
      | panic ch => exact hq.elim
      | outgrown => exact hq.elim
    · -- behind the iterator
      rintro e W2 ⟨⟨v, rfl⟩, (⟨hi, hl⟩ | ⟨c, hc, hi, hl⟩)⟩
      · refine ⟨none, _, by have := run_endLoop (P := P) hl (by rw [hrec]; simp); rw [hrec] at this; exact this, ?_⟩
        exact ⟨_, rfl, hdone _ (sI _ _ _ _ hi hl)⟩
      · refine ⟨some c, _, by have := run_endLoop (P := P) hl (by rw [hrec]; simp); rw [hrec] at this; exact this, ?_⟩
        rcases hc with rfl | ⟨id, rfl⟩
        · exact wpIn_ret ⟨_, rfl, hret _ (sX _ _ _ _ hi hl)⟩
        · exact wpIn_exit ⟨_, rfl, hexit _ _ (sX _ _ _ _ hi hl)⟩
end
end Go.Proofs.YtjaendlcijmifaaDoor.Wk

namespace Go.Proofs.YtjaendlcijmifaaDoor
open Go Wk
open Go.RowKit (Below)
attribute [local irreducible] Go.Calls

/-- Two rings in memory, apart from one another and from K. -/
def Two (w : World) (K : Nat → Prop) (a b : Nat) (ta tb : Tr) (W : World) : Prop :=
  ∃ A B : Nat → Prop, (∀ k, A k → w.heap.size ≤ k ∧ k < W.heap.size ∧ ¬ K k ∧ ¬ B k) ∧ (∀ k, B k → w.heap.size ≤ k ∧ k < W.heap.size ∧ ¬ K k) ∧ Rg A W a ta ∧ Rg B W b tb
theorem Two.weak {w W : World} {K K' : Nat → Prop} {a b : Nat} {ta tb : Tr} (h : Two w K a b ta tb W) (hK : ∀ k, k < W.heap.size → K' k → K k) : Two w K' a b ta tb W := by
  obtain ⟨A, B, hA, hB, ra, rb⟩ := h
  exact ⟨A, B, fun k e => ⟨(hA k e).1, (hA k e).2.1, fun e' => (hA k e).2.2.1 (hK k (hA k e).2.1 e'), (hA k e).2.2.2⟩, fun k e => ⟨(hB k e).1, (hB k e).2.1, fun e' => (hB k e).2.2 (hK k (hB k e).2.1 e')⟩, ra, rb⟩
theorem Two.chg {w W W' : World} {K M : Nat → Prop} {a b : Nat} {ta tb : Tr} (h : Two w K a b ta tb W) (c : Chg M W W') (hM : ∀ k, k < W.heap.size → M k → K k) : Two w K a b ta tb W' := by
  obtain ⟨A, B, hA, hB, ra, rb⟩ := h
  have s := c.size
  exact ⟨A, B, fun k e => ⟨(hA k e).1, by have := (hA k e).2.1; omega, (hA k e).2.2⟩, fun k e => ⟨(hB k e).1, by have := (hB k e).2.1; omega, (hB k e).2.2⟩,
    ra.chg c fun k e e' => (hA k e).2.2.1 (hM k (hA k e).2.1 e'), rb.chg c fun k e e' => (hB k e).2.2 (hM k (hB k e).2.1 e')⟩
theorem Two.new {w W W' : World} {K : Nat → Prop} {a b : Nat} {ta tb : Tr} (h : Two w K a b ta tb W) (n : New W W') : Two w K a b ta tb W' := h.chg n fun _ _ e => e.elim
/-- What is looked at within the range. -/
structure Fix (K : Nat → Prop) (bR bS bW bs : Nat) (sf wv sv : Value) (la : List Ev) (W : World) : Prop where
  kR : K bR
  kS : K bS
  kW : K bW
  kb : K bs
  r : Bk W bR 4 [.bool false]
  s : Bk W bS 33 [sf]
  w : Bk W bW 22 [wv]
  q : SqR K bs sv la W
  l : RdS rEv 6 K W wv la
theorem Fix.keep {K : Nat → Prop} {bR bS bW bs : Nat} {sf wv sv : Value} {la : List Ev} {W W' : World} (h : Fix K bR bS bW bs sf wv sv la W) (k : Keep K W W') : Fix K bR bS bW bs sf wv sv la W' :=
  ⟨h.kR, h.kS, h.kW, h.kb, h.r.keep k h.kR, h.s.keep k h.kS, h.w.keep k h.kW, ⟨h.q.1.keep k h.kb, h.q.2.keep (stable_flat _) k⟩, h.l.keep (stable_flat _) k⟩

abbrev itF (bs : Nat) : Value := .func (.func 55) #[] #[pT bs]
/-- What stays within the range: blocks from lo on may turn. -/
structure RJ (w : World) (K : Nat → Prop) (lo hi bR bS bW bs : Nat) (wv sv : Value) (la : List Ev) (a b : Nat) (ta tb : Tr) (V : World) : Prop where
  n : New w V
  s : hi ≤ V.heap.size
  f : Fix K bR bS bW bs (itF bs) wv sv la V
  t : Two w (fun k => K k ∨ lo ≤ k) a b ta tb V
  kl : ∀ k, K k → k < lo
  wl : w.heap.size ≤ lo
section
variable {w : World} {K : Nat → Prop} {lo hi bR bS bW bs a b : Nat} {wv sv : Value} {la : List Ev} {ta tb : Tr}
theorem RJ.new {V V' : World} (h : RJ w K lo hi bR bS bW bs wv sv la a b ta tb V) (n : New V V') : RJ w K lo hi bR bS bW bs wv sv la a b ta tb V' :=
  ⟨h.n.trans n, Nat.le_trans h.s n.size, h.f.keep n.keep, h.t.new n, h.kl, h.wl⟩
theorem RJ.chg {V V' : World} {M : Nat → Prop} (h : RJ w K lo hi bR bS bW bs wv sv la a b ta tb V) (c : Chg M V V') (hM : ∀ k, M k → lo ≤ k) : RJ w K lo hi bR bS bW bs wv sv la a b ta tb V' := by
  have hwl := h.wl
  exact ⟨Chg.trans h.n c fun k hk e => by have := hM k e; omega, Nat.le_trans h.s c.size, h.f.keep (c.keep fun k hk e e' => by have := hM k e'; have := h.kl k e; omega), h.t.chg c fun k hk e => .inr (hM k e), h.kl, h.wl⟩
/-- And within the inner range. -/
structure RJJ (w : World) (K : Nat → Prop) (lo hi bR bS bW bs : Nat) (wv sv : Value) (la : List Ev) (a b : Nat) (ta tb : Tr) (L D be hi2 : Nat) (rr : Loop) (k : Nat) (y : Ev) (U : World) : Prop where
  j : RJ w K lo hi bR bS bW bs wv sv la a b ta tb U
  s : hi2 ≤ U.heap.size
  bk : Bk U lo 3 [vi k]
  be : Bk U be 36 (evC y)
  hL : U.heap[L]? = some (.loop rr)
  hD : U.heap[D]? = some (.deferred (some []))
variable {L D be hi2 k : Nat} {rr : Loop} {y : Ev}
theorem RJJ.chg {U U' : World} {M : Nat → Prop} (h : RJJ w K lo hi bR bS bW bs wv sv la a b ta tb L D be hi2 rr k y U) (c : Chg M U U') (hM : ∀ k, M k → lo ≤ k ∧ k ≠ lo ∧ k ≠ be ∧ k ≠ L ∧ k ≠ D) : RJJ w K lo hi bR bS bW bs wv sv la a b ta tb L D be hi2 rr k y U' := by
  refine ⟨h.j.chg c fun k e => (hM k e).1, Nat.le_trans h.s c.size, h.bk.chg c fun e => (hM _ e).2.1 rfl, h.be.chg c fun e => (hM _ e).2.2.1 rfl, (c.block _ (NoC.loop h.hL).lt fun e => (hM _ e).2.2.2.1 rfl).trans h.hL, (c.block _ (NoC.mark h.hD).lt fun e => (hM _ e).2.2.2.2 rfl).trans h.hD⟩
theorem RJJ.new {U U' : World} (h : RJJ w K lo hi bR bS bW bs wv sv la a b ta tb L D be hi2 rr k y U) (n : New U U') : RJJ w K lo hi bR bS bW bs wv sv la a b ta tb L D be hi2 rr k y U' := h.chg n fun _ e => e.elim

def cL : Code → Code | .seq a _ => a | c => c
def cR : Code → Code | .seq _ b => b | c => c
def cB : Code → Code | .block _ b => b | .loop b => b | c => c
def cF : Code → Code | .rangeFunc _ _ _ b => b | c => c
def cOf (f : Func) : Code := f.body.getD .skip
def cRs : Nat → Code → Code
  | 0, c => c
  | n + 1, c => cRs n (cR c)
/-- The code of the range, and of the range within it. -/
noncomputable def ringRange : Code := cB (cR (cL (cRs 12 (cOf Tryd.f3))))
noncomputable def ringInner : Code := cB (cR (cL (cR (cB (cF ringRange)))))
set_option maxRecDepth 4000 in
set_option maxHeartbeats 1000000 in
theorem ring_inner {V5 : World} {F : Fr} {Q : Po} {rr : Loop} {y : Ev} {L D be bm k : Nat} (h : RJJ w K lo hi bR bS bW bs wv sv la a b ta tb L D be V5.heap.size rr k y V5) (hm : Bk V5 bm 3 [vi 0])
    (h152 : F 152 = itF bs) (h23 : F 23 = pT bm) (hlm : lo ≤ bm ∧ bm ≠ lo ∧ bm ≠ be ∧ bm ≠ L ∧ bm ≠ D)
    (hN : ∀ U, RJJ w K lo hi bR bS bW bs wv sv la a b ta tb L D be V5.heap.size rr k y U → Q .normal F U) (hX : ∀ U, RJJ w K lo hi bR bS bW bs wv sv la a b ta tb L D be V5.heap.size rr k y U → Q (.exit 6) F U) :
    Wr Tryd.prog 270 (some L) Q ringInner F V5 := by
  have hbm := hm.lt
  have hbe := h.be.lt
  have hbL := (NoC.loop h.hL).lt
  have hbD := (NoC.mark h.hD).lt
  have hlo := h.bk.lt
  refine Wr.range (P := Tryd.prog) (rc := rr) (r0 := L) h.hL (gf := 55) (lb := #[pT bs]) h152 (fun args _ => run_callFunc inferInstance args) (iter_values (Pb := K) (bs := bs) (v := sv) (l := la))
    (fun j U => RJJ w K lo hi bR bS bW bs wv sv la a b ta tb L D be V5.heap.size rr k y U ∧ Bk U bm 3 [vi j] ∧ j ≤ 2) (fun c U => c = .exit 6 ∧ RJJ w K lo hi bR bS bW bs wv sv la a b ta tb L D be V5.heap.size rr k y U) ?_ ?_ ?_ ?_ ?_ ?_ ?_ ?_ ?_
  · exact fun j U h => h.1.j.f.q
  · exact fun j U U' h n => ⟨h.1.new n, h.2.1.chg n (fun e => e), h.2.2⟩
  · intro j U r r' h hl
    exact ⟨h.1.chg (Chg.putObj U _ _) fun q e => ⟨by omega, by omega, by omega, by omega, by omega⟩, h.2.1.put _ (.loop hl), h.2.2⟩
  · intro c U r r' h hl
    exact ⟨h.1, h.2.chg (Chg.putObj U _ _) fun q e => ⟨by omega, by omega, by omega, by omega, by omega⟩⟩
  · intro r
    have n := Chg.alloc (fun _ => False) V5 (.loop r)
    exact ⟨h.new n, hm.chg n (fun e => e), Nat.zero_le _⟩
  · rintro j U r hj ⟨hh, hmj, hj2⟩ hl
    refine Wr.skip ⟨Chg.refl _ _, fun r' => ?_⟩
    have g := hh.chg (Chg.putObj U V5.heap.size (.loop r')) fun q e => ⟨by omega, by omega, by omega, by omega, by omega⟩
    have gm := hmj.put (.loop r') (.loop hl)
    have hL2 : (U.putObj V5.heap.size (.loop r')).heap[V5.heap.size]? = some (.loop r') := World.putObj_heap_same (NoC.loop hl).lt
    generalize U.putObj V5.heap.size (.loop r') = U1 at g gm hL2 ⊢
    clear hh hmj hl h hm
    have gl := (NoC.loop hL2).lt
    (repeat' (first | refine Wl.moveE (by conv => { lhs; whnf }) ?_ | refine Wl.assignE (by conv => { lhs; whnf }) ?_ | refine Wl.nil ?_ | refine Wl.extract rfl rfl ?_ | refine Wl.guardY rfl rfl ?_ | refine Wl.guardN rfl rfl ?_ | refine Wl.guardU rfl ?_ | refine Wl.pickTE rfl (by conv => { lhs; whnf }) ?_ | refine Wl.pickFE rfl (by conv => { lhs; whnf }) ?_ | refine Wl.notB rfl ?_ | refine Wl.lenS rfl ?_ | refine Wl.lenStr rfl ?_ | refine Qsr.normal ?_ | refine Wr.seq ?_ | refine Wr.region rfl (by repeat' (first | exact Qfn.out (by rintro _ ⟨⟨_, e⟩, _⟩; cases e) | exact Qrd.out | exact Qas.out | refine Qsr.out ?_ | refine Qloop.out ?_ | refine Qsc.out ?_ | refine Qblk.out ?_)) ?_ | refine Wr.block ?_ | refine Wr.skip ?_ | refine Wr.exit ?_ | refine Wr.ret ?_ | refine Qsr.exit ?_ | refine Qsr.ret ?_ | refine Qblk.normal ?_ | refine Qblk.ret ?_ | refine Qblk.hit ?_ | refine Qblk.miss rfl ?_ | refine Wr.scope ?_ | refine Wr.label ?_ | refine Qsc.normal ?_ | refine Qsc.exit ?_ | refine Qsc.ret ?_ | refine Qloop.exit ?_ | refine Qloop.ret ?_ | refine Wr.condT rfl ?_ | refine Wr.condF rfl ?_ | refine Wl.nilP rfl ?_ | refine Wl.fieldAddr rfl rfl ?_ | refine Wl.nilF rfl ?_ | refine Wl.add rfl rfl (by omega) (by omega) ?_ | refine Wl.sub rfl rfl (by omega) (by omega) ?_ | refine Wl.mul rfl rfl (by omega) (by omega) ?_ | refine Wl.convI rfl ?_ | (refine Wl.lss rfl rfl (fun _ => ?_) (fun _ => ?_) <;> (first | (exfalso; omega) | (exfalso; contradiction) | skip)) | (refine Wl.leq rfl rfl (fun _ => ?_) (fun _ => ?_) <;> (first | (exfalso; omega) | (exfalso; contradiction) | skip)) | (refine Wl.gtr rfl rfl (fun _ => ?_) (fun _ => ?_) <;> (first | (exfalso; omega) | (exfalso; contradiction) | skip)) | (refine Wl.geq rfl rfl (fun _ => ?_) (fun _ => ?_) <;> (first | (exfalso; omega) | (exfalso; contradiction) | skip)) | (refine Wl.eql rfl rfl (fun _ => ?_) (fun _ => ?_) <;> (first | (exfalso; omega) | (exfalso; contradiction) | skip)) | (refine Wl.neq rfl rfl (fun _ => ?_) (fun _ => ?_) <;> (first | (exfalso; omega) | (exfalso; contradiction) | skip)) | (refine Wl.seql rfl rfl (fun _ => ?_) (fun _ => ?_) <;> (first | (exfalso; omega) | (exfalso; contradiction) | skip)) | (refine Wl.sneq rfl rfl (fun _ => ?_) (fun _ => ?_) <;> (first | (exfalso; omega) | (exfalso; contradiction) | skip))))
    refine Wl.load1 (show F 23 = pT bm from h23) (gm.cell (o := 0) rfl) ?_
    (repeat' (first | refine Wl.moveE (by conv => { lhs; whnf }) ?_ | refine Wl.assignE (by conv => { lhs; whnf }) ?_ | refine Wl.nil ?_ | refine Wl.extract rfl rfl ?_ | refine Wl.guardY rfl rfl ?_ | refine Wl.guardN rfl rfl ?_ | refine Wl.guardU rfl ?_ | refine Wl.pickTE rfl (by conv => { lhs; whnf }) ?_ | refine Wl.pickFE rfl (by conv => { lhs; whnf }) ?_ | refine Wl.notB rfl ?_ | refine Wl.lenS rfl ?_ | refine Wl.lenStr rfl ?_ | refine Qsr.normal ?_ | refine Wr.seq ?_ | refine Wr.region rfl (by repeat' (first | exact Qfn.out (by rintro _ ⟨⟨_, e⟩, _⟩; cases e) | exact Qrd.out | exact Qas.out | refine Qsr.out ?_ | refine Qloop.out ?_ | refine Qsc.out ?_ | refine Qblk.out ?_)) ?_ | refine Wr.block ?_ | refine Wr.skip ?_ | refine Wr.exit ?_ | refine Wr.ret ?_ | refine Qsr.exit ?_ | refine Qsr.ret ?_ | refine Qblk.normal ?_ | refine Qblk.ret ?_ | refine Qblk.hit ?_ | refine Qblk.miss rfl ?_ | refine Wr.scope ?_ | refine Wr.label ?_ | refine Qsc.normal ?_ | refine Qsc.exit ?_ | refine Qsc.ret ?_ | refine Qloop.exit ?_ | refine Qloop.ret ?_ | refine Wr.condT rfl ?_ | refine Wr.condF rfl ?_ | refine Wl.nilP rfl ?_ | refine Wl.fieldAddr rfl rfl ?_ | refine Wl.nilF rfl ?_ | refine Wl.add rfl rfl (by omega) (by omega) ?_ | refine Wl.sub rfl rfl (by omega) (by omega) ?_ | refine Wl.mul rfl rfl (by omega) (by omega) ?_ | refine Wl.convI rfl ?_ | (refine Wl.lss rfl rfl (fun _ => ?_) (fun _ => ?_) <;> (first | (exfalso; omega) | (exfalso; contradiction) | skip)) | (refine Wl.leq rfl rfl (fun _ => ?_) (fun _ => ?_) <;> (first | (exfalso; omega) | (exfalso; contradiction) | skip)) | (refine Wl.gtr rfl rfl (fun _ => ?_) (fun _ => ?_) <;> (first | (exfalso; omega) | (exfalso; contradiction) | skip)) | (refine Wl.geq rfl rfl (fun _ => ?_) (fun _ => ?_) <;> (first | (exfalso; omega) | (exfalso; contradiction) | skip)) | (refine Wl.eql rfl rfl (fun _ => ?_) (fun _ => ?_) <;> (first | (exfalso; omega) | (exfalso; contradiction) | skip)) | (refine Wl.neq rfl rfl (fun _ => ?_) (fun _ => ?_) <;> (first | (exfalso; omega) | (exfalso; contradiction) | skip)) | (refine Wl.seql rfl rfl (fun _ => ?_) (fun _ => ?_) <;> (first | (exfalso; omega) | (exfalso; contradiction) | skip)) | (refine Wl.sneq rfl rfl (fun _ => ?_) (fun _ => ?_) <;> (first | (exfalso; omega) | (exfalso; contradiction) | skip))))
    refine Wl.store1 gm (show F 23 = pT bm from h23) Nat.zero_lt_one rfl rfl fun U2 g2 d2 => ?_
    have g2' := g.chg d2 fun q e => ⟨by omega, by omega, by omega, by omega, by omega⟩
    have hL3 := (d2.block _ gl fun e => by omega).trans hL2
    (repeat' (first | refine Wl.moveE (by conv => { lhs; whnf }) ?_ | refine Wl.assignE (by conv => { lhs; whnf }) ?_ | refine Wl.nil ?_ | refine Wl.extract rfl rfl ?_ | refine Wl.guardY rfl rfl ?_ | refine Wl.guardN rfl rfl ?_ | refine Wl.guardU rfl ?_ | refine Wl.pickTE rfl (by conv => { lhs; whnf }) ?_ | refine Wl.pickFE rfl (by conv => { lhs; whnf }) ?_ | refine Wl.notB rfl ?_ | refine Wl.lenS rfl ?_ | refine Wl.lenStr rfl ?_ | refine Qsr.normal ?_ | refine Wr.seq ?_ | refine Wr.region rfl (by repeat' (first | exact Qfn.out (by rintro _ ⟨⟨_, e⟩, _⟩; cases e) | exact Qrd.out | exact Qas.out | refine Qsr.out ?_ | refine Qloop.out ?_ | refine Qsc.out ?_ | refine Qblk.out ?_)) ?_ | refine Wr.block ?_ | refine Wr.skip ?_ | refine Wr.exit ?_ | refine Wr.ret ?_ | refine Qsr.exit ?_ | refine Qsr.ret ?_ | refine Qblk.normal ?_ | refine Qblk.ret ?_ | refine Qblk.hit ?_ | refine Qblk.miss rfl ?_ | refine Wr.scope ?_ | refine Wr.label ?_ | refine Qsc.normal ?_ | refine Qsc.exit ?_ | refine Qsc.ret ?_ | refine Qloop.exit ?_ | refine Qloop.ret ?_ | refine Wr.condT rfl ?_ | refine Wr.condF rfl ?_ | refine Wl.nilP rfl ?_ | refine Wl.fieldAddr rfl rfl ?_ | refine Wl.nilF rfl ?_ | refine Wl.add rfl rfl (by omega) (by omega) ?_ | refine Wl.sub rfl rfl (by omega) (by omega) ?_ | refine Wl.mul rfl rfl (by omega) (by omega) ?_ | refine Wl.convI rfl ?_ | (refine Wl.lss rfl rfl (fun _ => ?_) (fun _ => ?_) <;> (first | (exfalso; omega) | (exfalso; contradiction) | skip)) | (refine Wl.leq rfl rfl (fun _ => ?_) (fun _ => ?_) <;> (first | (exfalso; omega) | (exfalso; contradiction) | skip)) | (refine Wl.gtr rfl rfl (fun _ => ?_) (fun _ => ?_) <;> (first | (exfalso; omega) | (exfalso; contradiction) | skip)) | (refine Wl.geq rfl rfl (fun _ => ?_) (fun _ => ?_) <;> (first | (exfalso; omega) | (exfalso; contradiction) | skip)) | (refine Wl.eql rfl rfl (fun _ => ?_) (fun _ => ?_) <;> (first | (exfalso; omega) | (exfalso; contradiction) | skip)) | (refine Wl.neq rfl rfl (fun _ => ?_) (fun _ => ?_) <;> (first | (exfalso; omega) | (exfalso; contradiction) | skip)) | (refine Wl.seql rfl rfl (fun _ => ?_) (fun _ => ?_) <;> (first | (exfalso; omega) | (exfalso; contradiction) | skip)) | (refine Wl.sneq rfl rfl (fun _ => ?_) (fun _ => ?_) <;> (first | (exfalso; omega) | (exfalso; contradiction) | skip))))
    refine Wl.load1 (show F 23 = pT bm from h23) (g2.cell (o := 0) rfl) ?_
    (repeat' (first | refine Wl.moveE (by conv => { lhs; whnf }) ?_ | refine Wl.assignE (by conv => { lhs; whnf }) ?_ | refine Wl.nil ?_ | refine Wl.extract rfl rfl ?_ | refine Wl.guardY rfl rfl ?_ | refine Wl.guardN rfl rfl ?_ | refine Wl.guardU rfl ?_ | refine Wl.pickTE rfl (by conv => { lhs; whnf }) ?_ | refine Wl.pickFE rfl (by conv => { lhs; whnf }) ?_ | refine Wl.notB rfl ?_ | refine Wl.lenS rfl ?_ | refine Wl.lenStr rfl ?_ | refine Qsr.normal ?_ | refine Wr.seq ?_ | refine Wr.region rfl (by repeat' (first | exact Qfn.out (by rintro _ ⟨⟨_, e⟩, _⟩; cases e) | exact Qrd.out | exact Qas.out | refine Qsr.out ?_ | refine Qloop.out ?_ | refine Qsc.out ?_ | refine Qblk.out ?_)) ?_ | refine Wr.block ?_ | refine Wr.skip ?_ | refine Wr.exit ?_ | refine Wr.ret ?_ | refine Qsr.exit ?_ | refine Qsr.ret ?_ | refine Qblk.normal ?_ | refine Qblk.ret ?_ | refine Qblk.hit ?_ | refine Qblk.miss rfl ?_ | refine Wr.scope ?_ | refine Wr.label ?_ | refine Qsc.normal ?_ | refine Qsc.exit ?_ | refine Qsc.ret ?_ | refine Qloop.exit ?_ | refine Qloop.ret ?_ | refine Wr.condT rfl ?_ | refine Wr.condF rfl ?_ | refine Wl.nilP rfl ?_ | refine Wl.fieldAddr rfl rfl ?_ | refine Wl.nilF rfl ?_ | refine Wl.add rfl rfl (by omega) (by omega) ?_ | refine Wl.sub rfl rfl (by omega) (by omega) ?_ | refine Wl.mul rfl rfl (by omega) (by omega) ?_ | refine Wl.convI rfl ?_ | (refine Wl.lss rfl rfl (fun _ => ?_) (fun _ => ?_) <;> (first | (exfalso; omega) | (exfalso; contradiction) | skip)) | (refine Wl.leq rfl rfl (fun _ => ?_) (fun _ => ?_) <;> (first | (exfalso; omega) | (exfalso; contradiction) | skip)) | (refine Wl.gtr rfl rfl (fun _ => ?_) (fun _ => ?_) <;> (first | (exfalso; omega) | (exfalso; contradiction) | skip)) | (refine Wl.geq rfl rfl (fun _ => ?_) (fun _ => ?_) <;> (first | (exfalso; omega) | (exfalso; contradiction) | skip)) | (refine Wl.eql rfl rfl (fun _ => ?_) (fun _ => ?_) <;> (first | (exfalso; omega) | (exfalso; contradiction) | skip)) | (refine Wl.neq rfl rfl (fun _ => ?_) (fun _ => ?_) <;> (first | (exfalso; omega) | (exfalso; contradiction) | skip)) | (refine Wl.seql rfl rfl (fun _ => ?_) (fun _ => ?_) <;> (first | (exfalso; omega) | (exfalso; contradiction) | skip)) | (refine Wl.sneq rfl rfl (fun _ => ?_) (fun _ => ?_) <;> (first | (exfalso; omega) | (exfalso; contradiction) | skip))))
    · exact ⟨hL3.trans hL2.symm, hL3.trans hL2.symm, rfl, g2'⟩
    · exact ⟨hL3.trans hL2.symm, hL3.trans hL2.symm, g2', g2, by omega⟩
  · exact fun U h => hN U h.1
  · exact fun U h => by cases h.1
  · rintro id U ⟨e, h⟩
    cases e
    exact hX U h
theorem Wk.Wr.blockX {P : Program} {n : Nat} {r : Option Nat} {Q : Po} {F : Fr} {w : World} {id : Nat} {c : Code} (M : World → Prop) (h : Wr P n r (fun e F' w' => (e = .normal ∨ e = .exit id) ∧ F' = F ∧ M w') c F w) (h2 : ∀ w', M w' → Q .normal F w') : Wr P n r (Qblk id Q) c F w := by
  unfold Wr at h ⊢
  refine wpIn_mono h ?_
  rintro e a w' ⟨F', rfl, he, rfl, hM⟩
  refine ⟨F', rfl, ?_⟩
  rcases he with rfl | rfl
  · exact Qblk.normal (h2 _ hM)
  · exact Qblk.hit (h2 _ hM)
set_option maxRecDepth 4000 in
set_option maxHeartbeats 2000000 in
theorem ring_range {W10 : World} {F : Fr} {Q : Pd} {ds : List Deferred} (h : RJ w K lo W10.heap.size bR bS bW bs wv sv la a b ta tb W10) (hk : Bk W10 lo 3 [vi 0])
    (h150 : F 150 = itF bs) (h13 : F 13 = pT bS) (h14 : F 14 = pT bW) (h21 : F 21 = pT lo) (hla : la.length ≤ 1000000)
    (hdone : ∀ U, RJ w K lo W10.heap.size bR bS bW bs wv sv la a b ta tb U → Bk U lo 3 [vi la.length] → U.heap[W10.heap.size]? = some (.deferred (some [])) → Q .normal ({ target := .collected W10.heap.size, args := #[] } :: ds) F U) :
    Wd Tryd.prog 270 Q ringRange ds F W10 := by
  have hlo := hk.lt
  obtain ⟨wa, wc, hwv, hw3, hw4⟩ := h.f.l.form
  simp only [maxLen] at hw4
  refine Wd.range (P := Tryd.prog) (gf := 55) (lb := #[pT bs]) h150 (fun args _ => run_callFunc inferInstance args) (iter_values (Pb := K) (bs := bs) (v := sv) (l := la))
    (fun k V => RJ w K lo W10.heap.size bR bS bW bs wv sv la a b ta tb V ∧ Bk V lo 3 [vi k]) (fun _ _ => False) ?_ ?_ ?_ ?_ ?_ ?_ ?_ ?_ ?_
  · exact fun k V h => h.1.f.q
  · exact fun k V V' h n => ⟨h.1.new n, h.2.chg n (fun e => e)⟩
  · intro k V r r' h hL
    exact ⟨h.1.chg (Chg.putObj V _ _) fun q e => by omega, h.2.put _ (.loop hL)⟩
  · exact fun _ _ _ _ h => h.elim
  · intro r
    have n := Chg.loop (w := W10) (.deferred (some [])) (.loop r)
    exact ⟨h.new n, hk.chg n (fun e => e)⟩
  · rintro k V r hkl ⟨jV, bV⟩ hL hD
    clear h hk hdone
    obtain ⟨y, hy⟩ := get_lt la hkl
    show Wr _ _ _ _ _ (upd _ 151 (evV (la.getD k ev0))) V
    rw [getD_of hy]
    have hDV := (NoC.mark hD).lt
    have hLV := (NoC.loop hL).lt
    (repeat' (first | refine Wl.moveE (by conv => { lhs; whnf }) ?_ | refine Wl.assignE (by conv => { lhs; whnf }) ?_ | refine Wl.nil ?_ | refine Wl.extract rfl rfl ?_ | refine Wl.guardY rfl rfl ?_ | refine Wl.guardN rfl rfl ?_ | refine Wl.guardU rfl ?_ | refine Wl.pickTE rfl (by conv => { lhs; whnf }) ?_ | refine Wl.pickFE rfl (by conv => { lhs; whnf }) ?_ | refine Wl.notB rfl ?_ | refine Wl.lenS rfl ?_ | refine Wl.lenStr rfl ?_ | refine Qsr.normal ?_ | refine Wr.seq ?_ | refine Wr.region rfl (by repeat' (first | exact Qfn.out (by rintro _ ⟨⟨_, e⟩, _⟩; cases e) | exact Qrd.out | exact Qas.out | refine Qsr.out ?_ | refine Qloop.out ?_ | refine Qsc.out ?_ | refine Qblk.out ?_)) ?_ | refine Wr.block ?_ | refine Wr.skip ?_ | refine Wr.exit ?_ | refine Wr.ret ?_ | refine Qsr.exit ?_ | refine Qsr.ret ?_ | refine Qblk.normal ?_ | refine Qblk.ret ?_ | refine Qblk.hit ?_ | refine Qblk.miss rfl ?_ | refine Wr.scope ?_ | refine Wr.label ?_ | refine Qsc.normal ?_ | refine Qsc.exit ?_ | refine Qsc.ret ?_ | refine Qloop.exit ?_ | refine Qloop.ret ?_ | refine Wr.condT rfl ?_ | refine Wr.condF rfl ?_ | refine Wl.nilP rfl ?_ | refine Wl.fieldAddr rfl rfl ?_ | refine Wl.nilF rfl ?_ | refine Wl.add rfl rfl (by omega) (by omega) ?_ | refine Wl.sub rfl rfl (by omega) (by omega) ?_ | refine Wl.mul rfl rfl (by omega) (by omega) ?_ | refine Wl.convI rfl ?_ | (refine Wl.lss rfl rfl (fun _ => ?_) (fun _ => ?_) <;> (first | (exfalso; omega) | (exfalso; contradiction) | skip)) | (refine Wl.leq rfl rfl (fun _ => ?_) (fun _ => ?_) <;> (first | (exfalso; omega) | (exfalso; contradiction) | skip)) | (refine Wl.gtr rfl rfl (fun _ => ?_) (fun _ => ?_) <;> (first | (exfalso; omega) | (exfalso; contradiction) | skip)) | (refine Wl.geq rfl rfl (fun _ => ?_) (fun _ => ?_) <;> (first | (exfalso; omega) | (exfalso; contradiction) | skip)) | (refine Wl.eql rfl rfl (fun _ => ?_) (fun _ => ?_) <;> (first | (exfalso; omega) | (exfalso; contradiction) | skip)) | (refine Wl.neq rfl rfl (fun _ => ?_) (fun _ => ?_) <;> (first | (exfalso; omega) | (exfalso; contradiction) | skip)) | (refine Wl.seql rfl rfl (fun _ => ?_) (fun _ => ?_) <;> (first | (exfalso; omega) | (exfalso; contradiction) | skip)) | (refine Wl.sneq rfl rfl (fun _ => ?_) (fun _ => ?_) <;> (first | (exfalso; omega) | (exfalso; contradiction) | skip))))
    refine Wl.alloc fun V1 c1 m1 t1 => ?_
    refine Wl.storeB (o := 0) (new := evC y) c1 rfl rfl rfl rfl (Nat.le_refl 6) (evC_one _) fun V2 c2 m2 t2 => ?_
    replace c2 : Bk V2 V.heap.size 36 (evC y) := c2
    have m02 : New V V2 := Chg.trans m1 m2 fun _ _ e => by omega
    (repeat' (first | refine Wl.moveE (by conv => { lhs; whnf }) ?_ | refine Wl.assignE (by conv => { lhs; whnf }) ?_ | refine Wl.nil ?_ | refine Wl.extract rfl rfl ?_ | refine Wl.guardY rfl rfl ?_ | refine Wl.guardN rfl rfl ?_ | refine Wl.guardU rfl ?_ | refine Wl.pickTE rfl (by conv => { lhs; whnf }) ?_ | refine Wl.pickFE rfl (by conv => { lhs; whnf }) ?_ | refine Wl.notB rfl ?_ | refine Wl.lenS rfl ?_ | refine Wl.lenStr rfl ?_ | refine Qsr.normal ?_ | refine Wr.seq ?_ | refine Wr.region rfl (by repeat' (first | exact Qfn.out (by rintro _ ⟨⟨_, e⟩, _⟩; cases e) | exact Qrd.out | exact Qas.out | refine Qsr.out ?_ | refine Qloop.out ?_ | refine Qsc.out ?_ | refine Qblk.out ?_)) ?_ | refine Wr.block ?_ | refine Wr.skip ?_ | refine Wr.exit ?_ | refine Wr.ret ?_ | refine Qsr.exit ?_ | refine Qsr.ret ?_ | refine Qblk.normal ?_ | refine Qblk.ret ?_ | refine Qblk.hit ?_ | refine Qblk.miss rfl ?_ | refine Wr.scope ?_ | refine Wr.label ?_ | refine Qsc.normal ?_ | refine Qsc.exit ?_ | refine Qsc.ret ?_ | refine Qloop.exit ?_ | refine Qloop.ret ?_ | refine Wr.condT rfl ?_ | refine Wr.condF rfl ?_ | refine Wl.nilP rfl ?_ | refine Wl.fieldAddr rfl rfl ?_ | refine Wl.nilF rfl ?_ | refine Wl.add rfl rfl (by omega) (by omega) ?_ | refine Wl.sub rfl rfl (by omega) (by omega) ?_ | refine Wl.mul rfl rfl (by omega) (by omega) ?_ | refine Wl.convI rfl ?_ | (refine Wl.lss rfl rfl (fun _ => ?_) (fun _ => ?_) <;> (first | (exfalso; omega) | (exfalso; contradiction) | skip)) | (refine Wl.leq rfl rfl (fun _ => ?_) (fun _ => ?_) <;> (first | (exfalso; omega) | (exfalso; contradiction) | skip)) | (refine Wl.gtr rfl rfl (fun _ => ?_) (fun _ => ?_) <;> (first | (exfalso; omega) | (exfalso; contradiction) | skip)) | (refine Wl.geq rfl rfl (fun _ => ?_) (fun _ => ?_) <;> (first | (exfalso; omega) | (exfalso; contradiction) | skip)) | (refine Wl.eql rfl rfl (fun _ => ?_) (fun _ => ?_) <;> (first | (exfalso; omega) | (exfalso; contradiction) | skip)) | (refine Wl.neq rfl rfl (fun _ => ?_) (fun _ => ?_) <;> (first | (exfalso; omega) | (exfalso; contradiction) | skip)) | (refine Wl.seql rfl rfl (fun _ => ?_) (fun _ => ?_) <;> (first | (exfalso; omega) | (exfalso; contradiction) | skip)) | (refine Wl.sneq rfl rfl (fun _ => ?_) (fun _ => ?_) <;> (first | (exfalso; omega) | (exfalso; contradiction) | skip))))
    refine ⟨m02, fun r' => ?_⟩
    have hL2 := (m02.block _ hLV id).trans hL
    have hD2 := (m02.block _ hDV id).trans hD
    have hLt := (NoC.loop hL2).lt
    have qJ := (jV.new m02).chg (Chg.putObj V2 (W10.heap.size + 1) (.loop r')) fun q e => by omega
    have q4 := (bV.chg m02 (fun e => e)).put (.loop r') (.loop hL2)
    have q6 := c2.put (.loop r') (.loop hL2)
    have qL : (V2.putObj (W10.heap.size + 1) (.loop r')).heap[W10.heap.size + 1]? = some (.loop r') := World.putObj_heap_same hLt
    have qD : (V2.putObj (W10.heap.size + 1) (.loop r')).heap[W10.heap.size]? = some (.deferred (some [])) := (World.putObj_heap_other (by omega)).trans hD2
    generalize V2.putObj (W10.heap.size + 1) (.loop r') = V3 at *
    have z6 := q6.lt
    clear m1 m2 c1 c2 m02 hL2 hD2 hLt jV bV hL hD
    (repeat' (first | refine Wl.moveE (by conv => { lhs; whnf }) ?_ | refine Wl.assignE (by conv => { lhs; whnf }) ?_ | refine Wl.nil ?_ | refine Wl.extract rfl rfl ?_ | refine Wl.guardY rfl rfl ?_ | refine Wl.guardN rfl rfl ?_ | refine Wl.guardU rfl ?_ | refine Wl.pickTE rfl (by conv => { lhs; whnf }) ?_ | refine Wl.pickFE rfl (by conv => { lhs; whnf }) ?_ | refine Wl.notB rfl ?_ | refine Wl.lenS rfl ?_ | refine Wl.lenStr rfl ?_ | refine Qsr.normal ?_ | refine Wr.seq ?_ | refine Wr.region rfl (by repeat' (first | exact Qfn.out (by rintro _ ⟨⟨_, e⟩, _⟩; cases e) | exact Qrd.out | exact Qas.out | refine Qsr.out ?_ | refine Qloop.out ?_ | refine Qsc.out ?_ | refine Qblk.out ?_)) ?_ | refine Wr.block ?_ | refine Wr.skip ?_ | refine Wr.exit ?_ | refine Wr.ret ?_ | refine Qsr.exit ?_ | refine Qsr.ret ?_ | refine Qblk.normal ?_ | refine Qblk.ret ?_ | refine Qblk.hit ?_ | refine Qblk.miss rfl ?_ | refine Wr.scope ?_ | refine Wr.label ?_ | refine Qsc.normal ?_ | refine Qsc.exit ?_ | refine Qsc.ret ?_ | refine Qloop.exit ?_ | refine Qloop.ret ?_ | refine Wr.condT rfl ?_ | refine Wr.condF rfl ?_ | refine Wl.nilP rfl ?_ | refine Wl.fieldAddr rfl rfl ?_ | refine Wl.nilF rfl ?_ | refine Wl.add rfl rfl (by omega) (by omega) ?_ | refine Wl.sub rfl rfl (by omega) (by omega) ?_ | refine Wl.mul rfl rfl (by omega) (by omega) ?_ | refine Wl.convI rfl ?_ | (refine Wl.lss rfl rfl (fun _ => ?_) (fun _ => ?_) <;> (first | (exfalso; omega) | (exfalso; contradiction) | skip)) | (refine Wl.leq rfl rfl (fun _ => ?_) (fun _ => ?_) <;> (first | (exfalso; omega) | (exfalso; contradiction) | skip)) | (refine Wl.gtr rfl rfl (fun _ => ?_) (fun _ => ?_) <;> (first | (exfalso; omega) | (exfalso; contradiction) | skip)) | (refine Wl.geq rfl rfl (fun _ => ?_) (fun _ => ?_) <;> (first | (exfalso; omega) | (exfalso; contradiction) | skip)) | (refine Wl.eql rfl rfl (fun _ => ?_) (fun _ => ?_) <;> (first | (exfalso; omega) | (exfalso; contradiction) | skip)) | (refine Wl.neq rfl rfl (fun _ => ?_) (fun _ => ?_) <;> (first | (exfalso; omega) | (exfalso; contradiction) | skip)) | (refine Wl.seql rfl rfl (fun _ => ?_) (fun _ => ?_) <;> (first | (exfalso; omega) | (exfalso; contradiction) | skip)) | (refine Wl.sneq rfl rfl (fun _ => ?_) (fun _ => ?_) <;> (first | (exfalso; omega) | (exfalso; contradiction) | skip))))
    refine Wl.alloc fun V4 c4 m4 t4 => ?_
    refine Wl.store1 c4 rfl Nat.zero_lt_one rfl rfl fun V5 c5 m5 => ?_
    replace c5 : Bk V5 V3.heap.size 3 [vi 0] := c5
    have m35 : New V3 V5 := Chg.trans m4 m5 fun _ _ e => by omega
    have jV5 := qJ.new m35
    have J5 : RJJ w K lo W10.heap.size bR bS bW bs wv sv la a b ta tb (W10.heap.size + 1) W10.heap.size V.heap.size V5.heap.size r' k y V5 :=
      ⟨jV5, Nat.le_refl _, q4.chg m35 (fun e => e), q6.chg m35 (fun e => e), (m35.block _ (NoC.loop qL).lt id).trans qL, (m35.block _ (NoC.mark qD).lt id).trans qD⟩
    have zD := (NoC.loop qL).lt
    clear c4 m4 m5 m35 qJ q4 q6
    (repeat' (first | refine Wl.moveE (by conv => { lhs; whnf }) ?_ | refine Wl.assignE (by conv => { lhs; whnf }) ?_ | refine Wl.nil ?_ | refine Wl.extract rfl rfl ?_ | refine Wl.guardY rfl rfl ?_ | refine Wl.guardN rfl rfl ?_ | refine Wl.guardU rfl ?_ | refine Wl.pickTE rfl (by conv => { lhs; whnf }) ?_ | refine Wl.pickFE rfl (by conv => { lhs; whnf }) ?_ | refine Wl.notB rfl ?_ | refine Wl.lenS rfl ?_ | refine Wl.lenStr rfl ?_ | refine Qsr.normal ?_ | refine Wr.seq ?_ | refine Wr.block ?_ | refine Wr.skip ?_ | refine Wr.exit ?_ | refine Wr.ret ?_ | refine Qsr.exit ?_ | refine Qsr.ret ?_ | refine Qblk.normal ?_ | refine Qblk.ret ?_ | refine Qblk.hit ?_ | refine Qblk.miss rfl ?_ | refine Wr.scope ?_ | refine Wr.label ?_ | refine Qsc.normal ?_ | refine Qsc.exit ?_ | refine Qsc.ret ?_ | refine Qloop.exit ?_ | refine Qloop.ret ?_ | refine Wr.condT rfl ?_ | refine Wr.condF rfl ?_ | refine Wl.nilP rfl ?_ | refine Wl.fieldAddr rfl rfl ?_ | refine Wl.nilF rfl ?_ | refine Wl.add rfl rfl (by omega) (by omega) ?_ | refine Wl.sub rfl rfl (by omega) (by omega) ?_ | refine Wl.mul rfl rfl (by omega) (by omega) ?_ | refine Wl.convI rfl ?_ | (refine Wl.lss rfl rfl (fun _ => ?_) (fun _ => ?_) <;> (first | (exfalso; omega) | (exfalso; contradiction) | skip)) | (refine Wl.leq rfl rfl (fun _ => ?_) (fun _ => ?_) <;> (first | (exfalso; omega) | (exfalso; contradiction) | skip)) | (refine Wl.gtr rfl rfl (fun _ => ?_) (fun _ => ?_) <;> (first | (exfalso; omega) | (exfalso; contradiction) | skip)) | (refine Wl.geq rfl rfl (fun _ => ?_) (fun _ => ?_) <;> (first | (exfalso; omega) | (exfalso; contradiction) | skip)) | (refine Wl.eql rfl rfl (fun _ => ?_) (fun _ => ?_) <;> (first | (exfalso; omega) | (exfalso; contradiction) | skip)) | (refine Wl.neq rfl rfl (fun _ => ?_) (fun _ => ?_) <;> (first | (exfalso; omega) | (exfalso; contradiction) | skip)) | (refine Wl.seql rfl rfl (fun _ => ?_) (fun _ => ?_) <;> (first | (exfalso; omega) | (exfalso; contradiction) | skip)) | (refine Wl.sneq rfl rfl (fun _ => ?_) (fun _ => ?_) <;> (first | (exfalso; omega) | (exfalso; contradiction) | skip))))
    refine Wr.region rfl (by repeat' (first | exact Qfn.out (by rintro _ ⟨⟨_, e⟩, _⟩; cases e) | exact Qrd.out | exact Qas.out | refine Qsr.out ?_ | refine Qloop.out ?_ | refine Qsc.out ?_ | refine Qblk.out ?_)) ?_
    refine Wl.load1 (show F 13 = pT bS from h13) (jV5.f.s.cell (o := 0) rfl) ?_
    (repeat' (first | refine Wl.moveE (by conv => { lhs; whnf }) ?_ | refine Wl.assignE (by conv => { lhs; whnf }) ?_ | refine Wl.nil ?_ | refine Wl.extract rfl rfl ?_ | refine Wl.guardY rfl rfl ?_ | refine Wl.guardN rfl rfl ?_ | refine Wl.guardU rfl ?_ | refine Wl.pickTE rfl (by conv => { lhs; whnf }) ?_ | refine Wl.pickFE rfl (by conv => { lhs; whnf }) ?_ | refine Wl.notB rfl ?_ | refine Wl.lenS rfl ?_ | refine Wl.lenStr rfl ?_ | refine Qsr.normal ?_ | refine Wr.seq ?_ | refine Wr.block ?_ | refine Wr.skip ?_ | refine Wr.exit ?_ | refine Wr.ret ?_ | refine Qsr.exit ?_ | refine Qsr.ret ?_ | refine Qblk.normal ?_ | refine Qblk.ret ?_ | refine Qblk.hit ?_ | refine Qblk.miss rfl ?_ | refine Wr.scope ?_ | refine Wr.label ?_ | refine Qsc.normal ?_ | refine Qsc.exit ?_ | refine Qsc.ret ?_ | refine Qloop.exit ?_ | refine Qloop.ret ?_ | refine Wr.condT rfl ?_ | refine Wr.condF rfl ?_ | refine Wl.nilP rfl ?_ | refine Wl.fieldAddr rfl rfl ?_ | refine Wl.nilF rfl ?_ | refine Wl.add rfl rfl (by omega) (by omega) ?_ | refine Wl.sub rfl rfl (by omega) (by omega) ?_ | refine Wl.mul rfl rfl (by omega) (by omega) ?_ | refine Wl.convI rfl ?_ | (refine Wl.lss rfl rfl (fun _ => ?_) (fun _ => ?_) <;> (first | (exfalso; omega) | (exfalso; contradiction) | skip)) | (refine Wl.leq rfl rfl (fun _ => ?_) (fun _ => ?_) <;> (first | (exfalso; omega) | (exfalso; contradiction) | skip)) | (refine Wl.gtr rfl rfl (fun _ => ?_) (fun _ => ?_) <;> (first | (exfalso; omega) | (exfalso; contradiction) | skip)) | (refine Wl.geq rfl rfl (fun _ => ?_) (fun _ => ?_) <;> (first | (exfalso; omega) | (exfalso; contradiction) | skip)) | (refine Wl.eql rfl rfl (fun _ => ?_) (fun _ => ?_) <;> (first | (exfalso; omega) | (exfalso; contradiction) | skip)) | (refine Wl.neq rfl rfl (fun _ => ?_) (fun _ => ?_) <;> (first | (exfalso; omega) | (exfalso; contradiction) | skip)) | (refine Wl.seql rfl rfl (fun _ => ?_) (fun _ => ?_) <;> (first | (exfalso; omega) | (exfalso; contradiction) | skip)) | (refine Wl.sneq rfl rfl (fun _ => ?_) (fun _ => ?_) <;> (first | (exfalso; omega) | (exfalso; contradiction) | skip))))
    refine Wk.Wr.blockX (fun U => RJJ w K lo W10.heap.size bR bS bW bs wv sv la a b ta tb (W10.heap.size + 1) W10.heap.size V.heap.size V5.heap.size r' k y U) ?_ ?_
    · exact ring_inner J5 c5 rfl rfl ⟨by omega, by omega, by omega, by omega, by omega⟩ (fun U hU => ⟨.inl rfl, rfl, hU⟩) (fun U hU => ⟨.inr rfl, rfl, hU⟩)
    clear J5 jV5 c5
    intro U hU
    subst hwv
    (repeat' (first | refine Wl.moveE (by conv => { lhs; whnf }) ?_ | refine Wl.assignE (by conv => { lhs; whnf }) ?_ | refine Wl.nil ?_ | refine Wl.extract rfl rfl ?_ | refine Wl.guardY rfl rfl ?_ | refine Wl.guardN rfl rfl ?_ | refine Wl.guardU rfl ?_ | refine Wl.pickTE rfl (by conv => { lhs; whnf }) ?_ | refine Wl.pickFE rfl (by conv => { lhs; whnf }) ?_ | refine Wl.notB rfl ?_ | refine Wl.lenS rfl ?_ | refine Wl.lenStr rfl ?_ | refine Qsr.normal ?_ | refine Wr.seq ?_ | refine Wr.block ?_ | refine Wr.skip ?_ | refine Wr.exit ?_ | refine Wr.ret ?_ | refine Qsr.exit ?_ | refine Qsr.ret ?_ | refine Qblk.normal ?_ | refine Qblk.ret ?_ | refine Qblk.hit ?_ | refine Qblk.miss rfl ?_ | refine Wr.scope ?_ | refine Wr.label ?_ | refine Qsc.normal ?_ | refine Qsc.exit ?_ | refine Qsc.ret ?_ | refine Qloop.exit ?_ | refine Qloop.ret ?_ | refine Wr.condT rfl ?_ | refine Wr.condF rfl ?_ | refine Wl.nilP rfl ?_ | refine Wl.fieldAddr rfl rfl ?_ | refine Wl.nilF rfl ?_ | refine Wl.add rfl rfl (by omega) (by omega) ?_ | refine Wl.sub rfl rfl (by omega) (by omega) ?_ | refine Wl.mul rfl rfl (by omega) (by omega) ?_ | refine Wl.convI rfl ?_ | (refine Wl.lss rfl rfl (fun _ => ?_) (fun _ => ?_) <;> (first | (exfalso; omega) | (exfalso; contradiction) | skip)) | (refine Wl.leq rfl rfl (fun _ => ?_) (fun _ => ?_) <;> (first | (exfalso; omega) | (exfalso; contradiction) | skip)) | (refine Wl.gtr rfl rfl (fun _ => ?_) (fun _ => ?_) <;> (first | (exfalso; omega) | (exfalso; contradiction) | skip)) | (refine Wl.geq rfl rfl (fun _ => ?_) (fun _ => ?_) <;> (first | (exfalso; omega) | (exfalso; contradiction) | skip)) | (refine Wl.eql rfl rfl (fun _ => ?_) (fun _ => ?_) <;> (first | (exfalso; omega) | (exfalso; contradiction) | skip)) | (refine Wl.neq rfl rfl (fun _ => ?_) (fun _ => ?_) <;> (first | (exfalso; omega) | (exfalso; contradiction) | skip)) | (refine Wl.seql rfl rfl (fun _ => ?_) (fun _ => ?_) <;> (first | (exfalso; omega) | (exfalso; contradiction) | skip)) | (refine Wl.sneq rfl rfl (fun _ => ?_) (fun _ => ?_) <;> (first | (exfalso; omega) | (exfalso; contradiction) | skip))))
    refine Wr.regionT rfl (by repeat' (first | exact Qfn.out (by rintro _ ⟨⟨_, e⟩, _⟩; cases e) | exact Qrd.out | exact Qas.out | refine Qsr.out ?_ | refine Qloop.out ?_ | refine Qsc.out ?_ | refine Qblk.out ?_)) rfl (by kernel_rfl) (New U) (Chg.drew _ _) ?_
    intro U1 u1
    refine Wt.quiet rfl (Wq.load1 (show F 21 = pT lo from h21) (fun W' n => (hU.new n).bk.cell (o := 0) rfl) (Wq.nil ?_))
    refine Wt.quiet rfl (Wq.load1 (show F 14 = pT bW from h14) (fun W' n => (hU.new n).j.f.w.cell (o := 0) rfl) (Wq.nil ?_))
    (repeat' (first | refine Wt.nil ?_ | refine Wt.guardY rfl rfl ?_ | refine Wt.guardN rfl rfl (by assumption) ?_ | refine Wt.guardU rfl (by assumption) ?_ | refine Wt.quiet rfl (Wq.moveE (by conv => { lhs; whnf }) (Wq.nil ?_)) | refine Wt.quiet rfl (Wq.assignE (by conv => { lhs; whnf }) (Wq.nil ?_)) | refine Wt.quiet rfl (Wq.extract rfl rfl (Wq.nil ?_)) | refine Wt.quiet rfl (Wq.pickTE rfl (by conv => { lhs; whnf }) (Wq.nil ?_)) | refine Wt.quiet rfl (Wq.pickFE rfl (by conv => { lhs; whnf }) (Wq.nil ?_)) | refine Wt.quiet rfl (Wq.notB rfl (Wq.nil ?_)) | refine Wt.quiet rfl (Wq.lenS rfl (Wq.nil ?_)) | refine Wt.quiet rfl (Wq.lenStr rfl (Wq.nil ?_)) | refine Wt.quiet rfl (Wq.nilP rfl (Wq.nil ?_)) | refine Wt.quiet rfl (Wq.fieldAddr rfl rfl (Wq.nil ?_)) | refine Wt.quiet rfl (Wq.add rfl rfl (by omega) (by omega) (Wq.nil ?_)) | refine Wt.quiet rfl (Wq.sub rfl rfl (by omega) (by omega) (Wq.nil ?_)) | refine Wt.quiet rfl (Wq.mul rfl rfl (by omega) (by omega) (Wq.nil ?_)) | refine Wt.quiet rfl (Wq.convI rfl (Wq.nil ?_)) | (refine Wt.quiet rfl (Wq.lss rfl rfl (fun _ => Wq.nil ?_) (fun _ => Wq.nil ?_)) <;> (first | (exfalso; omega) | (exfalso; contradiction) | skip)) | (refine Wt.quiet rfl (Wq.leq rfl rfl (fun _ => Wq.nil ?_) (fun _ => Wq.nil ?_)) <;> (first | (exfalso; omega) | (exfalso; contradiction) | skip)) | (refine Wt.quiet rfl (Wq.gtr rfl rfl (fun _ => Wq.nil ?_) (fun _ => Wq.nil ?_)) <;> (first | (exfalso; omega) | (exfalso; contradiction) | skip)) | (refine Wt.quiet rfl (Wq.geq rfl rfl (fun _ => Wq.nil ?_) (fun _ => Wq.nil ?_)) <;> (first | (exfalso; omega) | (exfalso; contradiction) | skip)) | (refine Wt.quiet rfl (Wq.eql rfl rfl (fun _ => Wq.nil ?_) (fun _ => Wq.nil ?_)) <;> (first | (exfalso; omega) | (exfalso; contradiction) | skip)) | (refine Wt.quiet rfl (Wq.neq rfl rfl (fun _ => Wq.nil ?_) (fun _ => Wq.nil ?_)) <;> (first | (exfalso; omega) | (exfalso; contradiction) | skip)) | (refine Wt.quiet rfl (Wq.seql rfl rfl (fun _ => Wq.nil ?_) (fun _ => Wq.nil ?_)) <;> (first | (exfalso; omega) | (exfalso; contradiction) | skip)) | (refine Wt.quiet rfl (Wq.sneq rfl rfl (fun _ => Wq.nil ?_) (fun _ => Wq.nil ?_)) <;> (first | (exfalso; omega) | (exfalso; contradiction) | skip))))
    refine Wt.quiet rfl (Wq.load1 rfl (fun W' n => (hU.new n).be.cell (o := 0) rfl) (Wq.nil ?_))
    (repeat' (first | refine Wt.nil ?_ | refine Wt.guardY rfl rfl ?_ | refine Wt.guardN rfl rfl (by assumption) ?_ | refine Wt.guardU rfl (by assumption) ?_ | refine Wt.quiet rfl (Wq.moveE (by conv => { lhs; whnf }) (Wq.nil ?_)) | refine Wt.quiet rfl (Wq.assignE (by conv => { lhs; whnf }) (Wq.nil ?_)) | refine Wt.quiet rfl (Wq.extract rfl rfl (Wq.nil ?_)) | refine Wt.quiet rfl (Wq.pickTE rfl (by conv => { lhs; whnf }) (Wq.nil ?_)) | refine Wt.quiet rfl (Wq.pickFE rfl (by conv => { lhs; whnf }) (Wq.nil ?_)) | refine Wt.quiet rfl (Wq.notB rfl (Wq.nil ?_)) | refine Wt.quiet rfl (Wq.lenS rfl (Wq.nil ?_)) | refine Wt.quiet rfl (Wq.lenStr rfl (Wq.nil ?_)) | refine Wt.quiet rfl (Wq.nilP rfl (Wq.nil ?_)) | refine Wt.quiet rfl (Wq.fieldAddr rfl rfl (Wq.nil ?_)) | refine Wt.quiet rfl (Wq.add rfl rfl (by omega) (by omega) (Wq.nil ?_)) | refine Wt.quiet rfl (Wq.sub rfl rfl (by omega) (by omega) (Wq.nil ?_)) | refine Wt.quiet rfl (Wq.mul rfl rfl (by omega) (by omega) (Wq.nil ?_)) | refine Wt.quiet rfl (Wq.convI rfl (Wq.nil ?_)) | (refine Wt.quiet rfl (Wq.lss rfl rfl (fun _ => Wq.nil ?_) (fun _ => Wq.nil ?_)) <;> (first | (exfalso; omega) | (exfalso; contradiction) | skip)) | (refine Wt.quiet rfl (Wq.leq rfl rfl (fun _ => Wq.nil ?_) (fun _ => Wq.nil ?_)) <;> (first | (exfalso; omega) | (exfalso; contradiction) | skip)) | (refine Wt.quiet rfl (Wq.gtr rfl rfl (fun _ => Wq.nil ?_) (fun _ => Wq.nil ?_)) <;> (first | (exfalso; omega) | (exfalso; contradiction) | skip)) | (refine Wt.quiet rfl (Wq.geq rfl rfl (fun _ => Wq.nil ?_) (fun _ => Wq.nil ?_)) <;> (first | (exfalso; omega) | (exfalso; contradiction) | skip)) | (refine Wt.quiet rfl (Wq.eql rfl rfl (fun _ => Wq.nil ?_) (fun _ => Wq.nil ?_)) <;> (first | (exfalso; omega) | (exfalso; contradiction) | skip)) | (refine Wt.quiet rfl (Wq.neq rfl rfl (fun _ => Wq.nil ?_) (fun _ => Wq.nil ?_)) <;> (first | (exfalso; omega) | (exfalso; contradiction) | skip)) | (refine Wt.quiet rfl (Wq.seql rfl rfl (fun _ => Wq.nil ?_) (fun _ => Wq.nil ?_)) <;> (first | (exfalso; omega) | (exfalso; contradiction) | skip)) | (refine Wt.quiet rfl (Wq.sneq rfl rfl (fun _ => Wq.nil ?_) (fun _ => Wq.nil ?_)) <;> (first | (exfalso; omega) | (exfalso; contradiction) | skip))))
    (try refine Wt.guardY rfl rfl ?_)
    refine Wt.quiet rfl (Wq.load1 (show F 14 = pT bW from h14) (fun W' n => (hU.new n).j.f.w.cell (o := 0) rfl) (Wq.nil ?_))
    (try refine Wt.guardY rfl rfl ?_)
    refine Wt.quiet rfl (Wq.load1 (show F 21 = pT lo from h21) (fun W' n => (hU.new n).bk.cell (o := 0) rfl) (Wq.nil ?_))
    (try refine Wt.guardY rfl rfl ?_)
    refine Wt.quiet rfl (Wq.idxAddr hU.j.f.l (fun W' c => c.keep) rfl rfl (by omega) (by rw [Int.toNat_natCast]; exact hy) fun bb o cs hl hR hat => Wq.nil ?_)
    obtain rfl : cs = evC y := hR
    (repeat' (first | refine Wt.nil ?_ | refine Wt.guardY rfl rfl ?_ | refine Wt.guardN rfl rfl (by assumption) ?_ | refine Wt.guardU rfl (by assumption) ?_ | refine Wt.quiet rfl (Wq.moveE (by conv => { lhs; whnf }) (Wq.nil ?_)) | refine Wt.quiet rfl (Wq.assignE (by conv => { lhs; whnf }) (Wq.nil ?_)) | refine Wt.quiet rfl (Wq.extract rfl rfl (Wq.nil ?_)) | refine Wt.quiet rfl (Wq.pickTE rfl (by conv => { lhs; whnf }) (Wq.nil ?_)) | refine Wt.quiet rfl (Wq.pickFE rfl (by conv => { lhs; whnf }) (Wq.nil ?_)) | refine Wt.quiet rfl (Wq.notB rfl (Wq.nil ?_)) | refine Wt.quiet rfl (Wq.lenS rfl (Wq.nil ?_)) | refine Wt.quiet rfl (Wq.lenStr rfl (Wq.nil ?_)) | refine Wt.quiet rfl (Wq.nilP rfl (Wq.nil ?_)) | refine Wt.quiet rfl (Wq.fieldAddr rfl rfl (Wq.nil ?_)) | refine Wt.quiet rfl (Wq.add rfl rfl (by omega) (by omega) (Wq.nil ?_)) | refine Wt.quiet rfl (Wq.sub rfl rfl (by omega) (by omega) (Wq.nil ?_)) | refine Wt.quiet rfl (Wq.mul rfl rfl (by omega) (by omega) (Wq.nil ?_)) | refine Wt.quiet rfl (Wq.convI rfl (Wq.nil ?_)) | (refine Wt.quiet rfl (Wq.lss rfl rfl (fun _ => Wq.nil ?_) (fun _ => Wq.nil ?_)) <;> (first | (exfalso; omega) | (exfalso; contradiction) | skip)) | (refine Wt.quiet rfl (Wq.leq rfl rfl (fun _ => Wq.nil ?_) (fun _ => Wq.nil ?_)) <;> (first | (exfalso; omega) | (exfalso; contradiction) | skip)) | (refine Wt.quiet rfl (Wq.gtr rfl rfl (fun _ => Wq.nil ?_) (fun _ => Wq.nil ?_)) <;> (first | (exfalso; omega) | (exfalso; contradiction) | skip)) | (refine Wt.quiet rfl (Wq.geq rfl rfl (fun _ => Wq.nil ?_) (fun _ => Wq.nil ?_)) <;> (first | (exfalso; omega) | (exfalso; contradiction) | skip)) | (refine Wt.quiet rfl (Wq.eql rfl rfl (fun _ => Wq.nil ?_) (fun _ => Wq.nil ?_)) <;> (first | (exfalso; omega) | (exfalso; contradiction) | skip)) | (refine Wt.quiet rfl (Wq.neq rfl rfl (fun _ => Wq.nil ?_) (fun _ => Wq.nil ?_)) <;> (first | (exfalso; omega) | (exfalso; contradiction) | skip)) | (refine Wt.quiet rfl (Wq.seql rfl rfl (fun _ => Wq.nil ?_) (fun _ => Wq.nil ?_)) <;> (first | (exfalso; omega) | (exfalso; contradiction) | skip)) | (refine Wt.quiet rfl (Wq.sneq rfl rfl (fun _ => Wq.nil ?_) (fun _ => Wq.nil ?_)) <;> (first | (exfalso; omega) | (exfalso; contradiction) | skip))))
    refine Wt.quiet rfl (Wq.load1 rfl (fun W' n => (hat W' n).get 0 rfl) (Wq.nil ?_))
    (repeat' (first | refine Wt.nil ?_ | refine Wt.guardY rfl rfl ?_ | refine Wt.guardN rfl rfl (by assumption) ?_ | refine Wt.guardU rfl (by assumption) ?_ | refine Wt.quiet rfl (Wq.moveE (by conv => { lhs; whnf }) (Wq.nil ?_)) | refine Wt.quiet rfl (Wq.assignE (by conv => { lhs; whnf }) (Wq.nil ?_)) | refine Wt.quiet rfl (Wq.extract rfl rfl (Wq.nil ?_)) | refine Wt.quiet rfl (Wq.pickTE rfl (by conv => { lhs; whnf }) (Wq.nil ?_)) | refine Wt.quiet rfl (Wq.pickFE rfl (by conv => { lhs; whnf }) (Wq.nil ?_)) | refine Wt.quiet rfl (Wq.notB rfl (Wq.nil ?_)) | refine Wt.quiet rfl (Wq.lenS rfl (Wq.nil ?_)) | refine Wt.quiet rfl (Wq.lenStr rfl (Wq.nil ?_)) | refine Wt.quiet rfl (Wq.nilP rfl (Wq.nil ?_)) | refine Wt.quiet rfl (Wq.fieldAddr rfl rfl (Wq.nil ?_)) | refine Wt.quiet rfl (Wq.add rfl rfl (by omega) (by omega) (Wq.nil ?_)) | refine Wt.quiet rfl (Wq.sub rfl rfl (by omega) (by omega) (Wq.nil ?_)) | refine Wt.quiet rfl (Wq.mul rfl rfl (by omega) (by omega) (Wq.nil ?_)) | refine Wt.quiet rfl (Wq.convI rfl (Wq.nil ?_)) | (refine Wt.quiet rfl (Wq.lss rfl rfl (fun _ => Wq.nil ?_) (fun _ => Wq.nil ?_)) <;> (first | (exfalso; omega) | (exfalso; contradiction) | skip)) | (refine Wt.quiet rfl (Wq.leq rfl rfl (fun _ => Wq.nil ?_) (fun _ => Wq.nil ?_)) <;> (first | (exfalso; omega) | (exfalso; contradiction) | skip)) | (refine Wt.quiet rfl (Wq.gtr rfl rfl (fun _ => Wq.nil ?_) (fun _ => Wq.nil ?_)) <;> (first | (exfalso; omega) | (exfalso; contradiction) | skip)) | (refine Wt.quiet rfl (Wq.geq rfl rfl (fun _ => Wq.nil ?_) (fun _ => Wq.nil ?_)) <;> (first | (exfalso; omega) | (exfalso; contradiction) | skip)) | (refine Wt.quiet rfl (Wq.eql rfl rfl (fun _ => Wq.nil ?_) (fun _ => Wq.nil ?_)) <;> (first | (exfalso; omega) | (exfalso; contradiction) | skip)) | (refine Wt.quiet rfl (Wq.neq rfl rfl (fun _ => Wq.nil ?_) (fun _ => Wq.nil ?_)) <;> (first | (exfalso; omega) | (exfalso; contradiction) | skip)) | (refine Wt.quiet rfl (Wq.seql rfl rfl (fun _ => Wq.nil ?_) (fun _ => Wq.nil ?_)) <;> (first | (exfalso; omega) | (exfalso; contradiction) | skip)) | (refine Wt.quiet rfl (Wq.sneq rfl rfl (fun _ => Wq.nil ?_) (fun _ => Wq.nil ?_)) <;> (first | (exfalso; omega) | (exfalso; contradiction) | skip))))
    refine Wt.quiet rfl (Wq.load1 rfl (fun W' n => (hU.new n).be.cell (o := 4) rfl) (Wq.nil ?_))
    (try refine Wt.guardY rfl rfl ?_)
    refine Wt.quiet rfl (Wq.load1 (show F 14 = pT bW from h14) (fun W' n => (hU.new n).j.f.w.cell (o := 0) rfl) (Wq.nil ?_))
    (try refine Wt.guardY rfl rfl ?_)
    refine Wt.quiet rfl (Wq.load1 (show F 21 = pT lo from h21) (fun W' n => (hU.new n).bk.cell (o := 0) rfl) (Wq.nil ?_))
    (try refine Wt.guardY rfl rfl ?_)
    refine Wt.quiet rfl (Wq.idxAddr hU.j.f.l (fun W' c => c.keep) rfl rfl (by omega) (by rw [Int.toNat_natCast]; exact hy) fun bb' o' cs hl' hR' hat' => Wq.nil ?_)
    obtain rfl : cs = evC y := hR'
    (repeat' (first | refine Wt.nil ?_ | refine Wt.guardY rfl rfl ?_ | refine Wt.guardN rfl rfl (by assumption) ?_ | refine Wt.guardU rfl (by assumption) ?_ | refine Wt.quiet rfl (Wq.moveE (by conv => { lhs; whnf }) (Wq.nil ?_)) | refine Wt.quiet rfl (Wq.assignE (by conv => { lhs; whnf }) (Wq.nil ?_)) | refine Wt.quiet rfl (Wq.extract rfl rfl (Wq.nil ?_)) | refine Wt.quiet rfl (Wq.pickTE rfl (by conv => { lhs; whnf }) (Wq.nil ?_)) | refine Wt.quiet rfl (Wq.pickFE rfl (by conv => { lhs; whnf }) (Wq.nil ?_)) | refine Wt.quiet rfl (Wq.notB rfl (Wq.nil ?_)) | refine Wt.quiet rfl (Wq.lenS rfl (Wq.nil ?_)) | refine Wt.quiet rfl (Wq.lenStr rfl (Wq.nil ?_)) | refine Wt.quiet rfl (Wq.nilP rfl (Wq.nil ?_)) | refine Wt.quiet rfl (Wq.fieldAddr rfl rfl (Wq.nil ?_)) | refine Wt.quiet rfl (Wq.add rfl rfl (by omega) (by omega) (Wq.nil ?_)) | refine Wt.quiet rfl (Wq.sub rfl rfl (by omega) (by omega) (Wq.nil ?_)) | refine Wt.quiet rfl (Wq.mul rfl rfl (by omega) (by omega) (Wq.nil ?_)) | refine Wt.quiet rfl (Wq.convI rfl (Wq.nil ?_)) | (refine Wt.quiet rfl (Wq.lss rfl rfl (fun _ => Wq.nil ?_) (fun _ => Wq.nil ?_)) <;> (first | (exfalso; omega) | (exfalso; contradiction) | skip)) | (refine Wt.quiet rfl (Wq.leq rfl rfl (fun _ => Wq.nil ?_) (fun _ => Wq.nil ?_)) <;> (first | (exfalso; omega) | (exfalso; contradiction) | skip)) | (refine Wt.quiet rfl (Wq.gtr rfl rfl (fun _ => Wq.nil ?_) (fun _ => Wq.nil ?_)) <;> (first | (exfalso; omega) | (exfalso; contradiction) | skip)) | (refine Wt.quiet rfl (Wq.geq rfl rfl (fun _ => Wq.nil ?_) (fun _ => Wq.nil ?_)) <;> (first | (exfalso; omega) | (exfalso; contradiction) | skip)) | (refine Wt.quiet rfl (Wq.eql rfl rfl (fun _ => Wq.nil ?_) (fun _ => Wq.nil ?_)) <;> (first | (exfalso; omega) | (exfalso; contradiction) | skip)) | (refine Wt.quiet rfl (Wq.neq rfl rfl (fun _ => Wq.nil ?_) (fun _ => Wq.nil ?_)) <;> (first | (exfalso; omega) | (exfalso; contradiction) | skip)) | (refine Wt.quiet rfl (Wq.seql rfl rfl (fun _ => Wq.nil ?_) (fun _ => Wq.nil ?_)) <;> (first | (exfalso; omega) | (exfalso; contradiction) | skip)) | (refine Wt.quiet rfl (Wq.sneq rfl rfl (fun _ => Wq.nil ?_) (fun _ => Wq.nil ?_)) <;> (first | (exfalso; omega) | (exfalso; contradiction) | skip))))
    refine Wt.quiet rfl (Wq.load1 rfl (fun W' n => (hat' W' n).get 4 rfl) (Wq.nil ?_))
    (repeat' (first | refine Wt.nil ?_ | refine Wt.guardY rfl rfl ?_ | refine Wt.guardN rfl rfl (by assumption) ?_ | refine Wt.guardU rfl (by assumption) ?_ | refine Wt.quiet rfl (Wq.moveE (by conv => { lhs; whnf }) (Wq.nil ?_)) | refine Wt.quiet rfl (Wq.assignE (by conv => { lhs; whnf }) (Wq.nil ?_)) | refine Wt.quiet rfl (Wq.extract rfl rfl (Wq.nil ?_)) | refine Wt.quiet rfl (Wq.pickTE rfl (by conv => { lhs; whnf }) (Wq.nil ?_)) | refine Wt.quiet rfl (Wq.pickFE rfl (by conv => { lhs; whnf }) (Wq.nil ?_)) | refine Wt.quiet rfl (Wq.notB rfl (Wq.nil ?_)) | refine Wt.quiet rfl (Wq.lenS rfl (Wq.nil ?_)) | refine Wt.quiet rfl (Wq.lenStr rfl (Wq.nil ?_)) | refine Wt.quiet rfl (Wq.nilP rfl (Wq.nil ?_)) | refine Wt.quiet rfl (Wq.fieldAddr rfl rfl (Wq.nil ?_)) | refine Wt.quiet rfl (Wq.add rfl rfl (by omega) (by omega) (Wq.nil ?_)) | refine Wt.quiet rfl (Wq.sub rfl rfl (by omega) (by omega) (Wq.nil ?_)) | refine Wt.quiet rfl (Wq.mul rfl rfl (by omega) (by omega) (Wq.nil ?_)) | refine Wt.quiet rfl (Wq.convI rfl (Wq.nil ?_)) | (refine Wt.quiet rfl (Wq.lss rfl rfl (fun _ => Wq.nil ?_) (fun _ => Wq.nil ?_)) <;> (first | (exfalso; omega) | (exfalso; contradiction) | skip)) | (refine Wt.quiet rfl (Wq.leq rfl rfl (fun _ => Wq.nil ?_) (fun _ => Wq.nil ?_)) <;> (first | (exfalso; omega) | (exfalso; contradiction) | skip)) | (refine Wt.quiet rfl (Wq.gtr rfl rfl (fun _ => Wq.nil ?_) (fun _ => Wq.nil ?_)) <;> (first | (exfalso; omega) | (exfalso; contradiction) | skip)) | (refine Wt.quiet rfl (Wq.geq rfl rfl (fun _ => Wq.nil ?_) (fun _ => Wq.nil ?_)) <;> (first | (exfalso; omega) | (exfalso; contradiction) | skip)) | (refine Wt.quiet rfl (Wq.eql rfl rfl (fun _ => Wq.nil ?_) (fun _ => Wq.nil ?_)) <;> (first | (exfalso; omega) | (exfalso; contradiction) | skip)) | (refine Wt.quiet rfl (Wq.neq rfl rfl (fun _ => Wq.nil ?_) (fun _ => Wq.nil ?_)) <;> (first | (exfalso; omega) | (exfalso; contradiction) | skip)) | (refine Wt.quiet rfl (Wq.seql rfl rfl (fun _ => Wq.nil ?_) (fun _ => Wq.nil ?_)) <;> (first | (exfalso; omega) | (exfalso; contradiction) | skip)) | (refine Wt.quiet rfl (Wq.sneq rfl rfl (fun _ => Wq.nil ?_) (fun _ => Wq.nil ?_)) <;> (first | (exfalso; omega) | (exfalso; contradiction) | skip))))
    have g := hU.new u1
    clear hU hat hat'
    (repeat' (first | refine Wl.moveE (by conv => { lhs; whnf }) ?_ | refine Wl.assignE (by conv => { lhs; whnf }) ?_ | refine Wl.nil ?_ | refine Wl.extract rfl rfl ?_ | refine Wl.guardY rfl rfl ?_ | refine Wl.guardN rfl rfl ?_ | refine Wl.guardU rfl ?_ | refine Wl.pickTE rfl (by conv => { lhs; whnf }) ?_ | refine Wl.pickFE rfl (by conv => { lhs; whnf }) ?_ | refine Wl.notB rfl ?_ | refine Wl.lenS rfl ?_ | refine Wl.lenStr rfl ?_ | refine Qsr.normal ?_ | refine Wr.seq ?_ | refine Wr.region rfl (by repeat' (first | exact Qfn.out (by rintro _ ⟨⟨_, e⟩, _⟩; cases e) | exact Qrd.out | exact Qas.out | refine Qsr.out ?_ | refine Qloop.out ?_ | refine Qsc.out ?_ | refine Qblk.out ?_)) ?_ | refine Wr.block ?_ | refine Wr.skip ?_ | refine Wr.exit ?_ | refine Wr.ret ?_ | refine Qsr.exit ?_ | refine Qsr.ret ?_ | refine Qblk.normal ?_ | refine Qblk.ret ?_ | refine Qblk.hit ?_ | refine Qblk.miss rfl ?_ | refine Wr.scope ?_ | refine Wr.label ?_ | refine Qsc.normal ?_ | refine Qsc.exit ?_ | refine Qsc.ret ?_ | refine Qloop.exit ?_ | refine Qloop.ret ?_ | refine Wr.condT rfl ?_ | refine Wr.condF rfl ?_ | refine Wl.nilP rfl ?_ | refine Wl.fieldAddr rfl rfl ?_ | refine Wl.nilF rfl ?_ | refine Wl.add rfl rfl (by omega) (by omega) ?_ | refine Wl.sub rfl rfl (by omega) (by omega) ?_ | refine Wl.mul rfl rfl (by omega) (by omega) ?_ | refine Wl.convI rfl ?_ | (refine Wl.lss rfl rfl (fun _ => ?_) (fun _ => ?_) <;> (first | (exfalso; omega) | (exfalso; contradiction) | skip)) | (refine Wl.leq rfl rfl (fun _ => ?_) (fun _ => ?_) <;> (first | (exfalso; omega) | (exfalso; contradiction) | skip)) | (refine Wl.gtr rfl rfl (fun _ => ?_) (fun _ => ?_) <;> (first | (exfalso; omega) | (exfalso; contradiction) | skip)) | (refine Wl.geq rfl rfl (fun _ => ?_) (fun _ => ?_) <;> (first | (exfalso; omega) | (exfalso; contradiction) | skip)) | (refine Wl.eql rfl rfl (fun _ => ?_) (fun _ => ?_) <;> (first | (exfalso; omega) | (exfalso; contradiction) | skip)) | (refine Wl.neq rfl rfl (fun _ => ?_) (fun _ => ?_) <;> (first | (exfalso; omega) | (exfalso; contradiction) | skip)) | (refine Wl.seql rfl rfl (fun _ => ?_) (fun _ => ?_) <;> (first | (exfalso; omega) | (exfalso; contradiction) | skip)) | (refine Wl.sneq rfl rfl (fun _ => ?_) (fun _ => ?_) <;> (first | (exfalso; omega) | (exfalso; contradiction) | skip))))
    refine Wl.load1 (show F 21 = pT lo from h21) (g.bk.cell (o := 0) rfl) ?_
    (repeat' (first | refine Wl.moveE (by conv => { lhs; whnf }) ?_ | refine Wl.assignE (by conv => { lhs; whnf }) ?_ | refine Wl.nil ?_ | refine Wl.extract rfl rfl ?_ | refine Wl.guardY rfl rfl ?_ | refine Wl.guardN rfl rfl ?_ | refine Wl.guardU rfl ?_ | refine Wl.pickTE rfl (by conv => { lhs; whnf }) ?_ | refine Wl.pickFE rfl (by conv => { lhs; whnf }) ?_ | refine Wl.notB rfl ?_ | refine Wl.lenS rfl ?_ | refine Wl.lenStr rfl ?_ | refine Qsr.normal ?_ | refine Wr.seq ?_ | refine Wr.region rfl (by repeat' (first | exact Qfn.out (by rintro _ ⟨⟨_, e⟩, _⟩; cases e) | exact Qrd.out | exact Qas.out | refine Qsr.out ?_ | refine Qloop.out ?_ | refine Qsc.out ?_ | refine Qblk.out ?_)) ?_ | refine Wr.block ?_ | refine Wr.skip ?_ | refine Wr.exit ?_ | refine Wr.ret ?_ | refine Qsr.exit ?_ | refine Qsr.ret ?_ | refine Qblk.normal ?_ | refine Qblk.ret ?_ | refine Qblk.hit ?_ | refine Qblk.miss rfl ?_ | refine Wr.scope ?_ | refine Wr.label ?_ | refine Qsc.normal ?_ | refine Qsc.exit ?_ | refine Qsc.ret ?_ | refine Qloop.exit ?_ | refine Qloop.ret ?_ | refine Wr.condT rfl ?_ | refine Wr.condF rfl ?_ | refine Wl.nilP rfl ?_ | refine Wl.fieldAddr rfl rfl ?_ | refine Wl.nilF rfl ?_ | refine Wl.add rfl rfl (by omega) (by omega) ?_ | refine Wl.sub rfl rfl (by omega) (by omega) ?_ | refine Wl.mul rfl rfl (by omega) (by omega) ?_ | refine Wl.convI rfl ?_ | (refine Wl.lss rfl rfl (fun _ => ?_) (fun _ => ?_) <;> (first | (exfalso; omega) | (exfalso; contradiction) | skip)) | (refine Wl.leq rfl rfl (fun _ => ?_) (fun _ => ?_) <;> (first | (exfalso; omega) | (exfalso; contradiction) | skip)) | (refine Wl.gtr rfl rfl (fun _ => ?_) (fun _ => ?_) <;> (first | (exfalso; omega) | (exfalso; contradiction) | skip)) | (refine Wl.geq rfl rfl (fun _ => ?_) (fun _ => ?_) <;> (first | (exfalso; omega) | (exfalso; contradiction) | skip)) | (refine Wl.eql rfl rfl (fun _ => ?_) (fun _ => ?_) <;> (first | (exfalso; omega) | (exfalso; contradiction) | skip)) | (refine Wl.neq rfl rfl (fun _ => ?_) (fun _ => ?_) <;> (first | (exfalso; omega) | (exfalso; contradiction) | skip)) | (refine Wl.seql rfl rfl (fun _ => ?_) (fun _ => ?_) <;> (first | (exfalso; omega) | (exfalso; contradiction) | skip)) | (refine Wl.sneq rfl rfl (fun _ => ?_) (fun _ => ?_) <;> (first | (exfalso; omega) | (exfalso; contradiction) | skip))))
    refine Wl.store1 g.bk (show F 21 = pT lo from h21) Nat.zero_lt_one rfl rfl fun U2 g2 d2 => ?_
    have gL := (NoC.loop g.hL).lt
    (repeat' (first | refine Wl.moveE (by conv => { lhs; whnf }) ?_ | refine Wl.assignE (by conv => { lhs; whnf }) ?_ | refine Wl.nil ?_ | refine Wl.extract rfl rfl ?_ | refine Wl.guardY rfl rfl ?_ | refine Wl.guardN rfl rfl ?_ | refine Wl.guardU rfl ?_ | refine Wl.pickTE rfl (by conv => { lhs; whnf }) ?_ | refine Wl.pickFE rfl (by conv => { lhs; whnf }) ?_ | refine Wl.notB rfl ?_ | refine Wl.lenS rfl ?_ | refine Wl.lenStr rfl ?_ | refine Qsr.normal ?_ | refine Wr.seq ?_ | refine Wr.region rfl (by repeat' (first | exact Qfn.out (by rintro _ ⟨⟨_, e⟩, _⟩; cases e) | exact Qrd.out | exact Qas.out | refine Qsr.out ?_ | refine Qloop.out ?_ | refine Qsc.out ?_ | refine Qblk.out ?_)) ?_ | refine Wr.block ?_ | refine Wr.skip ?_ | refine Wr.exit ?_ | refine Wr.ret ?_ | refine Qsr.exit ?_ | refine Qsr.ret ?_ | refine Qblk.normal ?_ | refine Qblk.ret ?_ | refine Qblk.hit ?_ | refine Qblk.miss rfl ?_ | refine Wr.scope ?_ | refine Wr.label ?_ | refine Qsc.normal ?_ | refine Qsc.exit ?_ | refine Qsc.ret ?_ | refine Qloop.exit ?_ | refine Qloop.ret ?_ | refine Wr.condT rfl ?_ | refine Wr.condF rfl ?_ | refine Wl.nilP rfl ?_ | refine Wl.fieldAddr rfl rfl ?_ | refine Wl.nilF rfl ?_ | refine Wl.add rfl rfl (by omega) (by omega) ?_ | refine Wl.sub rfl rfl (by omega) (by omega) ?_ | refine Wl.mul rfl rfl (by omega) (by omega) ?_ | refine Wl.convI rfl ?_ | (refine Wl.lss rfl rfl (fun _ => ?_) (fun _ => ?_) <;> (first | (exfalso; omega) | (exfalso; contradiction) | skip)) | (refine Wl.leq rfl rfl (fun _ => ?_) (fun _ => ?_) <;> (first | (exfalso; omega) | (exfalso; contradiction) | skip)) | (refine Wl.gtr rfl rfl (fun _ => ?_) (fun _ => ?_) <;> (first | (exfalso; omega) | (exfalso; contradiction) | skip)) | (refine Wl.geq rfl rfl (fun _ => ?_) (fun _ => ?_) <;> (first | (exfalso; omega) | (exfalso; contradiction) | skip)) | (refine Wl.eql rfl rfl (fun _ => ?_) (fun _ => ?_) <;> (first | (exfalso; omega) | (exfalso; contradiction) | skip)) | (refine Wl.neq rfl rfl (fun _ => ?_) (fun _ => ?_) <;> (first | (exfalso; omega) | (exfalso; contradiction) | skip)) | (refine Wl.seql rfl rfl (fun _ => ?_) (fun _ => ?_) <;> (first | (exfalso; omega) | (exfalso; contradiction) | skip)) | (refine Wl.sneq rfl rfl (fun _ => ?_) (fun _ => ?_) <;> (first | (exfalso; omega) | (exfalso; contradiction) | skip))))
    exact ⟨((d2.block _ gL fun e => by omega).trans g.hL).trans qL.symm, ((d2.block _ (NoC.mark g.hD).lt fun e => by omega).trans g.hD).trans qD.symm, g.j.chg d2 fun q e => by omega, g2⟩
  · exact fun U hU hD => hdone U hU.1 hU.2 hD
  · exact fun _ h => h.elim
  · exact fun _ _ h => h.elim
end
end Go.Proofs.YtjaendlcijmifaaDoor
