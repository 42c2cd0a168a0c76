/-
  Texts of this claim, one behind the other: Xj, Xk, Pl1, Pl2, Mp, Pl3, Srt, Pl4.
-/
import Derived.Test.YtjaendlcijmifaaDoorZc
import Derived.Shelf.SlSortCmp.NoneTotal
import Derived.Ground.SlsfProg
import Derived.Test.YtjaendlcijmifaaDoorProg
import Derived.Sort.Walk0
import Derived.Laws.Cover1
namespace Go.Proofs.YtjaendlcijmifaaDoor
open Go Wk
open Go.RowKit (Below)
attribute [local irreducible] Go.Calls

theorem splitR_sum (c : UInt8) : ∀ l : List UInt8, ((splitR c l).map fun x => x.length + 1).sum = l.length + 1
  | [] => rfl
  | b :: l => by
    have ih := splitR_sum c l
    rw [splitR]
    split
    · rw [List.map_cons, List.sum_cons, ih]; simp; omega
    · have hne := splitR_ne c l
      revert ih hne
      generalize splitR c l = q
      intro ih hne
      cases q with
      | nil => exact absurd rfl hne
      | cons h t => simp only [List.map_cons, List.sum_cons, List.length_cons] at ih ⊢; omega
theorem sum_le_mul {m : Nat} : ∀ {l : List Nat}, (∀ x ∈ l, x ≤ m) → l.sum ≤ l.length * m
  | [], _ => by simp
  | x :: l, h => by
    have h1 := sum_le_mul (l := l) fun y hy => h y (by simp [hy])
    have h2 := h x (by simp)
    rw [List.sum_cons, List.length_cons, Nat.add_mul]; omega
theorem pathM_len {s : List UInt8} (h : pathM s = true) : s.length ≤ 1000 := by
  unfold pathM at h
  rcases Bool.or_eq_true _ _ ▸ h with h | h
  · rw [of_decide_eq_true h]; simp
  · simp only [Bool.and_eq_true, Bool.not_eq_true', List.any_eq_false, decide_eq_true_eq] at h
    obtain ⟨⟨⟨h0, h1⟩, h2⟩, h3⟩ := h
    have hs := splitR_sum 47 s
    have hle : ∀ x ∈ (splitR 47 s).map fun x => x.length + 1, x ≤ 32 := by
      intro x hx
      obtain ⟨y, hy, rfl⟩ := List.mem_map.1 hx
      obtain ⟨k, hk⟩ := List.mem_iff_getElem?.1 hy
      cases k with
      | zero =>
        rw [h0] at hk
        cases hk; simp
      | succ k =>
        have hm : y ∈ (splitR 47 s).drop 1 := List.mem_iff_getElem?.2 ⟨k, by rw [List.getElem?_drop, Nat.add_comm]; exact hk⟩
        have := h3 y hm
        cases hn : nameOk y with
        | false => rw [hn] at this; exact absurd rfl this
        | true =>
          unfold nameOk at hn
          rw [Bool.and_eq_true] at hn
          have := of_decide_eq_true hn.1
          omega
    have := sum_le_mul hle
    rw [List.length_map] at this
    have h4 : (splitR 47 s).length * 32 ≤ 16 * 32 := Nat.mul_le_mul_right _ h2
    omega
theorem goodS : GoodR (Wk.one vs) 1 := good_one _ fun _ => rfl
set_option maxHeartbeats 2000000 in
theorem Lines_spec' {w : World} {p : Value} {l : List Ev} (ht : Tb w) (hl : l.length ≤ 1000000) (hw : ∀ e ∈ l, EvW e ∧ e.pa.length ≤ 100000000) (hE : ∀ w', New w w' → Calls Tryd.prog 11 #[p] w' (Ret fun r w'' => SeqAt (fun k => w'.heap.size ≤ k) w'' r l ∧ New w' w'')) :
    Calls Tryd.prog 21 #[p] w (Ret fun r w' => OwnS (Wk.one vs) 9 1 (fun b => w.heap.size ≤ b) No w' r (l.map lineM) ∧ New w w') := by
  refine calls_of_Wd Tryd.func21 rfl Tryd.ntmps21 rfl ?_
  (repeat' (first | refine Wl.assignE (by conv => { lhs; whnf }) ?_ | refine Wl.nil ?_ | refine Wd.seq ?_ | refine Qds.normal ?_ | refine Wd.region ?_))
  refine Wl.alloc fun w1 b1 n1 s1 => ?_
  replace b1 : Bk w1 w.heap.size 50 [.slice none 0 0] := b1
  (repeat' (first | refine Wl.moveE (by conv => { lhs; whnf }) ?_ | refine Wl.nil ?_ | refine Wd.seq ?_ | refine Qds.normal ?_ | refine Wd.region ?_))
  refine Wl.call (hE w1 n1) rfl ?_
  intro f w2 hh
  obtain ⟨⟨bs, sv, rfl, hbs, hb2, hr2⟩, n2⟩ := hh
  have b2 := b1.chg n2 (fun e => e)
  have hq2 : SqR (fun k => w1.heap.size ≤ k ∧ k < w2.heap.size) bs sv l w2 := ⟨hb2, hr2.mono (mono_flat _) fun k hk e => ⟨e, hk⟩⟩
  have hbl := hb2.lt
  have n02 := n1.trans n2
  have z1 := n1.size
  have z2 := n2.size
  clear hb2 hr2 b1
  let I : Nat → World → Prop := fun k W => New w W ∧ w2.heap.size ≤ W.heap.size ∧ SqR (fun k => w1.heap.size ≤ k ∧ k < w2.heap.size) bs sv l W ∧ ∃ u, Bk W w.heap.size 50 [u] ∧ OwnS (Wk.one vs) 9 1 (fun j => w2.heap.size ≤ j) No W u ((l.take k).map lineM)
  (repeat' (first | refine Wl.nil ?_ | refine Wd.block ?_ | refine Qds.normal ?_))
  refine Wd.range (gf := 55) (lb := #[pT bs]) rfl (fun args _ => run_callFunc inferInstance args) (iter_values (Pb := fun k => w1.heap.size ≤ k ∧ k < w2.heap.size) (bs := bs) (v := sv) (l := l)) I (fun _ _ => False) ?_ ?_ ?_ ?_ ?_ ?_ ?_ ?_ ?_
  · exact fun k W h => h.2.2.1
  · rintro k W W' ⟨h1, h2, h3, u, h4, h5⟩ n
    exact ⟨h1.trans n, Nat.le_trans h2 n.size, h3.new n, u, h4.chg n (fun e => e), h5.new (plain_one _) n⟩
  · rintro k W r r' ⟨h1, h2, h3, u, h4, h5⟩ hL
    exact ⟨h1.put _ (by omega), by simpa using h2, h3.put _ (.loop hL) (by omega), u, h4.put _ (.loop hL), h5.put _ (plain_one _) (.loop hL)⟩
  · exact fun _ _ _ _ h => h.elim
  · intro r
    have n := Chg.loop (w := w2) (.deferred (some [])) (.loop r)
    exact ⟨n02.trans n, n.size, hq2.new n, _, b2.chg n (fun e => e), OwnS.nil⟩
  · rintro k W r hk ⟨h1, h2, h3, u, h4, h5⟩ hL hD
    obtain ⟨y, hy⟩ := get_lt l hk
    obtain ⟨hyw, hyl⟩ := hw y (List.mem_of_getElem? hy)
    show Wr _ _ _ _ _ (upd _ 7 (evV (l.getD k ev0))) W
    rw [getD_of hy]
    (repeat' (refine Wr.region rfl (by repeat' (first | exact Qfn.out (by rintro _ ⟨⟨_, e⟩, _⟩; cases e) | exact Qrd.out | exact Qas.out | refine Qsr.out ?_ | refine Qloop.out ?_ | refine Qsc.out ?_ | refine Qblk.out ?_)) ?_))
    refine Wl.alloc fun W1 c1 m1 t1 => ?_
    refine Wl.storeB (o := 0) (new := evC y) c1 rfl rfl rfl rfl (Nat.le_refl 6) (evC_one _) fun W2 c2 m2 t2 => ?_
    replace c2 : Bk W2 W.heap.size 36 (evC y) := c2
    have m02 : New W W2 := Chg.trans m1 m2 fun _ _ e => by omega
    (repeat' (refine Wl.nil ?_))
    refine ⟨m02, fun r' => ?_⟩
    have nL : NoC W2 (w2.heap.size + 1) := .loop ((m02.block _ (Array.getElem?_eq_some_iff.1 hL).1 id).trans hL)
    have hLt := nL.lt
    have q1 : New w (W2.putObj (w2.heap.size + 1) (.loop r')) := (h1.trans m02).put _ (by omega)
    have q3 := (h3.new m02).put (.loop r') nL (by omega)
    have q4 := (h4.chg m02 (fun e => e)).put (.loop r') nL
    have q5 := (h5.new (plain_one _) m02).put (.loop r') (plain_one _) nL
    have q6 := c2.put (.loop r') nL
    have qL : NoC (W2.putObj (w2.heap.size + 1) (.loop r')) (w2.heap.size + 1) := .loop (World.putObj_heap_same hLt)
    have qD : NoC (W2.putObj (w2.heap.size + 1) (.loop r')) w2.heap.size := .mark ((World.putObj_heap_other (by omega)).trans ((m02.block _ (Array.getElem?_eq_some_iff.1 hD).1 id).trans hD))
    have hu1 : ∀ j, u.ownBlock = some j → w2.heap.size ≤ j ∧ j < W.heap.size := fun j e => h5.lt e
    generalize W2.putObj (w2.heap.size + 1) (.loop r') = W3 at *
    clear m1 m2 c1 c2 h1 h3 h4 h5
    have zW := q1.size
    have zL := qL.lt
    have z6 := q6.lt
    obtain ⟨ua, ucp, hu0, _⟩ := q5.form
    (repeat' (refine Wr.block ?_))
    refine Wr.regionT rfl (by repeat' (first | exact Qfn.out (by rintro _ ⟨⟨_, e⟩, _⟩; cases e) | exact Qrd.out | exact Qas.out | refine Qsr.out ?_ | refine Qloop.out ?_ | refine Qsc.out ?_ | refine Qblk.out ?_)) rfl (by kernel_rfl) (fun W' => Chg (fun j => u.ownBlock = some j) W3 W') (Chg.drew _ _) ?_
    intro W4 m4
    have bk4 : ∀ W', Chg (fun j => u.ownBlock = some j) W3 W' → Bk W' w.heap.size 50 [u] := fun W' c => q4.chg c fun e => by have := hu1 _ e; omega
    skip
    refine Wt.quiet rfl (Wq.load1 rfl (fun W' c => (bk4 W' c).cell (o := 0) rfl) (Wq.nil ?_))
    refine Wt.quiet rfl (Wq.loadAt (fun W' c => (q6.chg c fun e => by have := hu1 _ e; omega).at) rfl rfl (Wq.nil ?_))
    refine Wt.chain rfl (Wl.call (line_spec (ht.new (q1.trans m4)) hyw hyl) rfl ?_)
    rintro _ W5 ⟨rfl, m5⟩
    replace m5 := m4.trans m5
    refine Wl.nil ⟨rfl, m5.any, ?_⟩
    refine Wt.chain rfl (Wl.buildSlice1 (R := Wk.one vs) (Pe := No) (y := lineM y) goodS rfl rfl rfl rfl (by omega) (by omega) fun v6 W6 o6 n6 s6 e6 => ?_)
    have m6 := m5.trans n6
    refine Wl.nil ⟨rfl, m6.any, ?_⟩
    refine Wt.chain rfl (Wl.appendAll (R := Wk.one vs) goodS (q5.new (plain_one _) m6) (o6.rd goodS.mo) (fun y cs hy => hy) rfl rfl (by omega) (by simp only [maxLen, List.length_map, List.length_take, List.length_singleton]; omega) (by simp only [List.length_map, List.length_take, List.length_singleton]; omega) fun u' W7 o7 c7 lie _ => ?_)
    rw [show (l.take k).map lineM ++ [lineM y] = (l.take (k + 1)).map lineM by rw [take_snoc' hy, List.map_append]; rfl] at o7
    have c37 : Chg (fun j => u.ownBlock = some j) W3 W7 := Chg.trans m6.any c7 fun _ _ e => e
    refine Wl.nil ⟨rfl, c37, ?_⟩
    have zm6 := m6.size
    have hu' : ∀ j, u'.ownBlock = some j → j ≠ w.heap.size := by
      intro j e
      rcases lie with lie | lie
      · rw [lie] at e; have := hu1 j e; omega
      · have := lie j e; omega
    refine Wt.last rfl (Wl.store1 (bk4 W7 c37) rfl (by simp) rfl (by obtain ⟨_, _, rfl, _⟩ := o7.form; rfl) fun W8 q8 d8 => ?_)
    have z7 := c7.size
    have z8 := d8.size
    have e38 : Chg (fun j => u.ownBlock = some j ∨ j = w.heap.size) W3 W8 := Chg.trans (c37.mono fun _ _ e => .inl e) (d8.mono fun _ _ e => .inr e) fun _ _ e => e
    (repeat' (first | refine Wl.nil ?_ | refine Qblk.normal ?_))
    refine ⟨e38.block _ qL.lt ?_, e38.block _ qD.lt ?_, Chg.trans q1 e38 fun j hj e => ?_, by omega, q3.chg e38 ?_ ?_, u', q8, ?_⟩
    · rintro (e | e)
      · exact q5.nl qL e rfl
      · omega
    · rintro (e | e)
      · exact q5.nl qD e rfl
      · omega
    · rcases e with e | e
      · have := hu1 j e; omega
      · omega
    · rintro (e | e)
      · have := hu1 _ e; omega
      · omega
    · rintro j hj (e | e)
      · have := hu1 _ e; omega
      · omega
    · exact (o7.chg (plain_one _) d8 fun j e e' => hu' j e e').mono goodS.mo (fun j _ e => by rcases e with e | e <;> omega) fun _ _ e => e
  · rintro W ⟨h1, h2, h3, u, h4, h5⟩ hD
    rw [List.take_length] at h5
    (repeat' (first | refine Wd.seq ?_ | refine Qds.normal ?_ | refine Qdb.normal ?_ | refine Wd.region ?_))
    refine Wl.load1 rfl (h4.cell (o := 0) rfl) ?_
    (repeat' (first | refine Wl.assignE (by conv => { lhs; whnf }) ?_ | refine Wl.nil ?_ | refine Qds.normal ?_ | refine Wd.ret ?_))
    refine Lv.mark (by simp) hD ?_
    have nD : NoC W w2.heap.size := .mark hD
    refine Lv.ret (v := u) (results1 rfl (rvOf_tmp rfl)) ⟨_, rfl, (h5.put _ (plain_one _) nD).mono goodS.mo (fun j _ e => by omega) (fun _ _ e => e), h1.put _ (by omega)⟩
  · exact fun _ h => h.elim
  · exact fun _ _ h => h.elim
theorem TrOk.evs {t : Tr} (h : TrOk t) : ∀ e ∈ t.kept, EvW e ∧ e.pa.length ≤ 100000000 := fun e he => by
  obtain ⟨h1, _, h3⟩ := h.ok e he
  exact ⟨h1, by have := pathM_len h3; omega⟩
def linesM (t : Tr) : List (List UInt8) := t.kept.map lineM
theorem Lines_spec {Pb : Nat → Prop} {w : World} {b : Nat} {t : Tr} (ht : Tb w) (h : Rg Pb w b t) : Calls Tryd.prog 21 #[pT b] w (Ret fun r w' => OwnS (Wk.one vs) 9 1 (fun b => w.heap.size ≤ b) No w' r (linesM t) ∧ New w w') :=
  Lines_spec' ht (by have := h.ok.len; have := h.ok.s1; omega) h.ok.evs fun w' n => Each_spec (h.new n)
theorem Lines_nil {w : World} (ht : Tb w) : Calls Tryd.prog 21 #[.pointer none] w (Ret fun r w' => OwnS (Wk.one vs) 9 1 (fun b => w.heap.size ≤ b) No w' r [] ∧ New w w') :=
  Lines_spec' (l := []) ht (by simp) (fun e he => by simp at he) fun w' n => Each_nil
theorem neqL {α : Type} {a b : List α} {x y : α} {i : Nat} (ha : a[i]? = some x) (hb : b[i]? = some y) (h : x ≠ y) : a ≠ b := by
  rintro rfl
  rw [ha] at hb
  exact h (Option.some.inj hb)
theorem take_full {α : Type} {a b : List α} {i : Nat} (hl : a.length = b.length) (hi : i = a.length) (h : a.take i = b.take i) : a = b := by
  subst hi
  rw [List.take_length, hl, List.take_length] at h; exact h
theorem take_both {α : Type} {a b : List α} {x : α} {i : Nat} (h : a.take i = b.take i) (ha : a[i]? = some x) (hb : b[i]? = some x) : a.take (i + 1) = b.take (i + 1) := by
  rw [take_snoc' ha, take_snoc' hb, h]
theorem texts_spec {Pb Pc : Nat → Prop} {w : World} {u v : Value} {a b : List (List UInt8)} (h : RdS (Wk.one vs) 1 Pb w u a) (h' : RdS (Wk.one vs) 1 Pc w v b) :
    Calls Tryd.prog 22 #[u, v] w (Ret fun r w' => r = .bool (decide (a = b)) ∧ New w w') := by
  obtain ⟨p, cp, rfl, hc1, hc2⟩ := h.form
  obtain ⟨q, cq, rfl, hd1, hd2⟩ := h'.form
  simp only [maxLen] at hc2 hd2
  refine calls_of_Wc Tryd.func22 rfl Tryd.ntmps22 rfl ?_
  (repeat' (first | refine Wl.moveE (by conv => { lhs; whnf }) ?_ | refine Wl.assignE (by conv => { lhs; whnf }) ?_ | refine Wl.nil ?_ | refine Wl.lenS rfl ?_ | refine Qseq.normal ?_ | refine Wc.seq ?_ | refine Wc.region ?_ | refine Wc.block ?_ | refine Wc.skip ?_ | refine Wc.ret ?_ | refine Qseq.ret ?_ | refine Wc.condT rfl ?_ | refine Wc.condF rfl ?_ | refine Wl.neq rfl rfl (fun _ => ?_) (fun _ => ?_)))
  · refine Qfn.ret1 rfl rfl ⟨_, rfl, ?_, Chg.refl _ _⟩
    rw [decide_eq_false (fun e => by subst e; omega)]; rfl
  · have hl : a.length = b.length := by omega
    refine Wc.loop (σ := Nat) (fun i => [(0, .slice p a.length cp), (1, .slice q b.length cq), (5, vi i)]) (fun i w' => i ≤ a.length ∧ a.take i = b.take i ∧ New w w') (fun i => a.length - i) 0 ⟨rfl, rfl, rfl, trivial⟩ ⟨Nat.zero_le _, rfl, Chg.refl _ _⟩ ?_
    rintro i G w1 ⟨hi, he, n1⟩
    simp only [upds]
    have g := h.keep (stable_one _) n1.keep
    have g' := h'.keep (stable_one _) n1.keep
    (repeat' (first | refine Wl.moveE (by conv => { lhs; whnf }) ?_ | refine Wl.assignE (by conv => { lhs; whnf }) ?_ | refine Wl.nil ?_ | refine Wl.lenS rfl ?_ | refine Qseq.normal ?_ | refine Wc.seq ?_ | refine Wc.region ?_ | refine Wc.block ?_ | refine Wc.skip ?_ | refine Wc.exit ?_ | refine Wc.ret ?_ | refine Qseq.exit ?_ | refine Qblk.hit ?_ | refine Qloop.exit ?_ | refine Wc.condT rfl ?_ | refine Wc.condF rfl ?_ | refine Wl.lss rfl rfl (fun _ => ?_) (fun _ => ?_)))
    · obtain ⟨x, hx⟩ := get_lt a (k := i) (by omega)
      obtain ⟨y, hy⟩ := get_lt b (k := i) (by omega)
      refine Wc.regionN rfl (by kernel_rfl) ?_
      (repeat' (refine Wq.moveE (by conv => { lhs; whnf }) ?_))
      refine Wq.idxAddrV g (fun w' n => n.keep) rfl rfl (by omega) (by rw [Int.toNat_natCast]; exact hx) fun bb o hc => ?_
      refine Wq.load1 rfl hc ?_
      (repeat' (refine Wq.moveE (by conv => { lhs; whnf }) ?_))
      refine Wq.idxAddrV g' (fun w' n => n.keep) rfl rfl (by omega) (by rw [Int.toNat_natCast]; exact hy) fun bb' o' hc' => ?_
      refine Wq.load1 rfl hc' ?_
      (repeat' (first | refine Wq.nil ?_ | refine Wq.sneq rfl rfl (fun _ => ?_) (fun _ => ?_)))
      · intro w2 n2
        have hne : x ≠ y := by assumption
        (repeat' (first | refine Wl.assignE (by conv => { lhs; whnf }) ?_ | refine Wl.nil ?_ | refine Qseq.normal ?_ | refine Wc.seq ?_ | refine Wc.region ?_ | refine Wc.ret ?_ | refine Qseq.ret ?_ | refine Qblk.ret ?_ | refine Qloop.ret ?_ | refine Wc.condT rfl ?_))
        refine Qfn.ret1 rfl rfl ⟨_, rfl, ?_, n1.trans n2⟩
        rw [decide_eq_false (neqL hx hy hne)]; rfl
      · intro w2 n2
        have hxy : x = y := by assumption
        subst hxy
        (repeat' (first | refine Wl.moveE (by conv => { lhs; whnf }) ?_ | refine Wl.assignE (by conv => { lhs; whnf }) ?_ | refine Wl.nil ?_ | refine Qseq.normal ?_ | refine Wc.region ?_ | refine Wc.skip ?_ | refine Qblk.normal ?_ | refine Wc.condF rfl ?_ | refine Wl.add rfl rfl (by omega) (by omega) ?_))
        exact Qloop.normal (i + 1) ⟨rfl, rfl, rfl, trivial⟩ ⟨by omega, take_both he hx hy, n1.trans n2⟩ (by omega)
    · refine Qfn.ret1 rfl rfl ⟨_, rfl, ?_, n1⟩
      rw [decide_eq_true (take_full hl (by omega) he)]; rfl
end Go.Proofs.YtjaendlcijmifaaDoor

namespace Go.Proofs.YtjaendlcijmifaaDoor
open Go Wk
open Go.RowKit (Below)
attribute [local irreducible] Go.Calls

theorem nat_dig {u : Nat} (h : u < 10) : decN u = [UInt8.ofNat (48 + u)] := Lib.decDigits_one h
theorem nat_dig2 {u : Nat} (h1 : ¬ u < 10) (h2 : u < 100) : decN u = [UInt8.ofNat (48 + u / 10), UInt8.ofNat (48 + u % 10)] := Lib.decDigits_two h1 h2
theorem int_dig (u : Nat) : decI (u : Int) = decN u := Lib.itoa_nonneg u
def aw1 : Tr := ⟨3, 0, [⟨1, 0, 10, 1, [47, 97], 0⟩]⟩
def aw2 : Tr := ⟨3, 0, [⟨1, 0, 10, 1, [47, 97], 0⟩, ⟨2, 1, 12, 3, [47, 97], 5⟩]⟩
theorem pathA : pathM [47, 97] = true := by decide
theorem aw1_add : (⟨3, 0, []⟩ : Tr).add 0 10 1 [47, 97] 0 = (1, 0, aw1) := by
  unfold Tr.add
  rw [if_neg (by simp [Tr.last, pathA]; decide), if_neg (by simp [Tr.last])]
  rfl
theorem aw2_add : aw1.add 1 12 3 [47, 97] 5 = (2, 0, aw2) := by
  unfold Tr.add
  rw [if_neg (by simp [Tr.last, aw1, pathA]; decide), if_neg (by simp [Tr.last, aw1])]
  rfl
theorem aw_lines : linesM aw2 = [[49, 32, 49, 48, 32, 98, 105, 110, 100, 32, 47, 97, 32, 48], [50, 32, 49, 50, 32, 111, 110, 32, 47, 97, 32, 53, 32, 98, 121, 32, 49]] := by
  have e0 : decI 0 = [48] := (int_dig 0).trans (nat_dig (by omega))
  have e5 : decI 5 = [53] := (int_dig 5).trans (nat_dig (by omega))
  have e10 : decI 10 = [49, 48] := (int_dig 10).trans (nat_dig2 (by omega) (by omega))
  have e12 : decI 12 = [49, 50] := (int_dig 12).trans (nat_dig2 (by omega) (by omega))
  have d1 : decN 1 = [49] := nat_dig (by omega)
  have d2 : decN 2 = [50] := nat_dig (by omega)
  simp only [linesM, aw2, List.map_cons, List.map_nil, lineM, lineH, e0, e5, e10, e12, d1, d2]
  rfl
set_option maxHeartbeats 1000000 in
theorem awake_spec {w : World} (ht : Tb w) : Calls Tryd.prog 13 #[] w (Ret fun r w' => r = .bool true ∧ New w w') := by
  refine calls_of_Wc Tryd.func13 rfl Tryd.ntmps13 rfl ?_
  (repeat' (first | refine Wl.assignE (by conv => { lhs; whnf }) ?_ | refine Wl.nil ?_ | refine Qseq.normal ?_ | refine Wc.seq ?_ | refine Wc.region ?_))
  refine Wl.call (New_spec (n := 3)) rfl ?_
  rintro r w1 ⟨hr, n1⟩
  rcases hr with ⟨hr, _⟩ | ⟨_, _, b, rfl, h1⟩
  · omega
  have z1 := n1.size
  replace h1 : Rg (fun k => w.heap.size ≤ k) w1 b ⟨3, 0, []⟩ := h1
  (repeat' (first | refine Wl.moveE (by conv => { lhs; whnf }) ?_ | refine Wl.assignE (by conv => { lhs; whnf }) ?_ | refine Wl.nil ?_ | refine Wl.extract rfl rfl ?_ | refine Qseq.normal ?_ | refine Wc.seq ?_ | refine Wc.region ?_))
  refine Wl.call (Add_spec (ca := 0) (tm := 10) (kd := 1) (pa := [47, 97]) (ar := 0) h1 ⟨by omega, by omega, by omega, by omega, by omega, by omega⟩ (by simp)) rfl ?_
  rintro _ w2 ⟨rfl, h2, c2⟩
  rw [aw1_add] at h2 ⊢
  have n2 : New w w2 := Chg.trans n1 c2 fun k hk e => by omega
  have z2 := n2.size
  (repeat' (first | refine Wl.moveE (by conv => { lhs; whnf }) ?_ | refine Wl.assignE (by conv => { lhs; whnf }) ?_ | refine Wl.nil ?_ | refine Wl.extract rfl rfl ?_ | refine Qseq.normal ?_ | refine Wc.seq ?_ | refine Wc.region ?_))
  refine Wl.call (Add_spec (ca := 1) (tm := 12) (kd := 3) (pa := [47, 97]) (ar := 5) (h2.mono (Pb' := fun k => w.heap.size ≤ k) fun k _ e => by rcases e with e | e <;> omega) ⟨by omega, by omega, by omega, by omega, by omega, by omega⟩ (by simp)) rfl ?_
  rintro _ w3 ⟨rfl, h3, c3⟩
  rw [aw2_add] at h3 ⊢
  have n3 : New w w3 := Chg.trans n2 c3 fun k hk e => by omega
  have z3 := n3.size
  (repeat' (first | refine Wl.moveE (by conv => { lhs; whnf }) ?_ | refine Wl.assignE (by conv => { lhs; whnf }) ?_ | refine Wl.nil ?_ | refine Wl.extract rfl rfl ?_ | refine Wl.guardY rfl rfl ?_ | refine Wl.pickTE rfl (by conv => { lhs; whnf }) ?_ | refine Qseq.normal ?_ | refine Wc.seq ?_ | refine Wc.region ?_ | (refine Wl.eql rfl rfl (fun _ => ?_) (fun _ => ?_) <;> (first | (exfalso; omega) | (exfalso; contradiction) | skip))))
  refine Wl.call (Lines_spec (ht.new n3) h3) rfl ?_
  rintro l w4 ⟨o4, n4⟩
  rw [aw_lines] at o4
  have r4 := o4.rd goodS.mo
  (repeat' (refine Wl.guardY rfl rfl ?_))
  refine Wl.buildSliceN (R := Wk.one vs) (Pe := fun _ => True) (xs := [[49, 32, 49, 48, 32, 98, 105, 110, 100, 32, 47, 97, 32, 48], [50, 32, 49, 50, 32, 111, 110, 32, 47, 97, 32, 53, 32, 98, 121, 32, 49]]) (us := [vs [49, 32, 49, 48, 32, 98, 105, 110, 100, 32, 47, 97, 32, 48], vs [50, 32, 49, 50, 32, 111, 110, 32, 47, 97, 32, 53, 32, 98, 121, 32, 49]]) goodS rfl rfl ⟨rfl, rfl, rfl, rfl, trivial⟩ (by simp) (by simp) fun v5 w5 o5 n5 s5 e5 => ?_
  (repeat' (refine Wl.guardY rfl rfl ?_))
  refine Wl.call (texts_spec (r4.keep (stable_one _) n5.keep) (o5.rd goodS.mo)) rfl ?_
  rintro _ w6 ⟨rfl, n6⟩
  rw [decide_eq_true rfl]
  (repeat' (first | refine Wl.assignE (by conv => { lhs; whnf }) ?_ | refine Wl.nil ?_ | refine Wl.pickTE rfl (by conv => { lhs; whnf }) ?_ | refine Qseq.normal ?_ | refine Wc.ret ?_))
  exact Qfn.ret1 rfl rfl ⟨_, rfl, rfl, ((n3.trans n4).trans n5).trans n6⟩
end Go.Proofs.YtjaendlcijmifaaDoor

namespace Go.Proofs.YtjaendlcijmifaaDoor
open Go Wk

structure Dv where
  bo : Bool
  on : Bool
  sl : Bool
  go : Bool
def dv0 : Dv := ⟨false, false, false, false⟩
def mayM (d : Dv) : Nat → Bool
  | 1 => !d.go && !d.bo
  | 2 => d.bo && (!d.on && !d.sl)
  | 3 => !d.on && !d.go
  | 4 => d.on
  | 5 => d.bo && !d.sl
  | 6 => d.sl
  | 7 => d.go
  | 8 => !d.go && (!d.bo && !d.on)
  | 9 => true
  | _ => false
def doM (d : Dv) : Nat → Dv
  | 1 => ⟨true, d.on, d.sl, d.go⟩
  | 2 => ⟨false, d.on, d.sl, d.go⟩
  | 3 => ⟨d.bo, true, d.sl, d.go⟩
  | 4 => ⟨d.bo, false, d.sl, d.go⟩
  | 5 => ⟨d.bo, d.on, true, d.go⟩
  | 6 => ⟨d.bo, d.on, false, d.go⟩
  | 7 => ⟨d.bo, d.on, d.sl, false⟩
  | 8 => ⟨d.bo, d.on, d.sl, true⟩
  | _ => d
abbrev DS := List (List UInt8 × Dv)
def look (S : DS) (p : List UInt8) : Option Dv := (S.find? fun e => decide (e.1 = p)).map (·.2)
def putD (S : DS) (p : List UInt8) (d : Dv) : DS := if (look S p).isSome then S.map (fun e => if e.1 = p then (p, d) else e) else S ++ [(p, d)]
/-- One event: a path and a kind. -/
def stepD (S : DS) (p : List UInt8) (k : Nat) : Option DS :=
  if nameK k ≠ [] ∧ pathM p = true ∧ mayM ((look S p).getD dv0) k = true then some (putD S p (doM ((look S p).getD dv0) k)) else none
def playS : List (List UInt8 × Nat) → Nat → DS → Nat ⊕ DS
  | [], _, S => .inr S
  | x :: r, i, S => match stepD S x.1 x.2 with
    | none => .inl i
    | some S' => playS r (i + 1) S'
def pk (e : Ev) : List UInt8 × Nat := (e.pa, e.kd)
def playM (l : List Ev) : Nat ⊕ DS := playS (l.map pk) 0 []

theorem look_none {S : DS} {p : List UInt8} : look S p = none ↔ ∀ e ∈ S, e.1 ≠ p := by
  unfold look; rw [Option.map_eq_none_iff, List.find?_eq_none]; simp
theorem look_some {S : DS} {p : List UInt8} {d : Dv} (h : look S p = some d) : (p, d) ∈ S := by
  unfold look at h
  obtain ⟨e, he, rfl⟩ := Option.map_eq_some_iff.1 h
  have h1 := List.find?_some he
  have h2 := List.mem_of_find?_eq_some he
  have h3 : e.1 = p := by simpa using h1
  rw [← h3]; exact h2
/-- Each path stands once. -/
def Keys (S : DS) : Prop := S.Pairwise fun a b => a.1 ≠ b.1
theorem Keys.uniq {S : DS} (h : Keys S) {p : List UInt8} {a b : Dv} (ha : (p, a) ∈ S) (hb : (p, b) ∈ S) : a = b := by
  induction S with
  | nil => simp at ha
  | cons e S ih =>
    obtain ⟨h1, h2⟩ := List.pairwise_cons.1 h
    rcases List.mem_cons.1 ha with ha | ha <;> rcases List.mem_cons.1 hb with hb | hb
    · rw [← hb] at ha; exact (Prod.mk.inj ha).2
    · exact absurd (by rw [← ha]) (h1 _ hb)
    · exact absurd (by rw [← hb]) (h1 _ ha)
    · exact ih h2 ha hb
theorem Keys.look {S : DS} (h : Keys S) {p : List UInt8} {d : Dv} (hd : (p, d) ∈ S) : look S p = some d := by
  cases hl : Go.Proofs.YtjaendlcijmifaaDoor.look S p with
  | none => exact absurd rfl (look_none.1 hl _ hd)
  | some e => rw [h.uniq (look_some hl) hd]
theorem Keys.perm {S R : DS} (h : Keys S) (hp : R.Perm S) : Keys R := (hp.pairwise_iff fun h => h.symm).2 h
theorem look_perm {S R : DS} (h : Keys S) (hp : R.Perm S) (p : List UInt8) : look R p = look S p := by
  cases hl : look S p with
  | none => exact look_none.2 fun e he => look_none.1 hl e (hp.mem_iff.1 he)
  | some d => exact (h.perm hp).look (hp.mem_iff.2 (look_some hl))
theorem keys_map {S : DS} (h : Keys S) (p : List UInt8) (d : Dv) : Keys (S.map fun e => if e.1 = p then (p, d) else e) := by
  unfold Keys at h ⊢
  rw [List.pairwise_map]
  refine h.imp fun {a b} hab => ?_
  have e : ∀ x : List UInt8 × Dv, (if x.1 = p then (p, d) else x).1 = x.1 := fun x => by split <;> simp_all
  rw [e, e]; exact hab
theorem Keys.put {S : DS} (h : Keys S) (p : List UInt8) (d : Dv) : Keys (putD S p d) := by
  unfold putD
  split
  · exact keys_map h p d
  · rename_i hn
    unfold Keys
    rw [List.pairwise_append]
    refine ⟨h, List.pairwise_singleton _ _, fun a ha b hb => ?_⟩
    rw [List.mem_singleton.1 hb]
    exact look_none.1 (by simpa using hn) a ha
theorem look_put {S : DS} (p : List UInt8) (d : Dv) (q : List UInt8) : look (putD S p d) q = if q = p then some d else look S q := by
  unfold putD
  split
  · rename_i hs
    unfold look
    rw [List.find?_map]
    have e : ((fun e : List UInt8 × Dv => decide (e.1 = q)) ∘ fun e => if e.1 = p then (p, d) else e) = fun e => decide (e.1 = q) := by
      funext x; simp only [Function.comp]; congr 1; split <;> simp_all
    rw [e]
    by_cases hq : q = p
    · subst hq
      rw [if_pos rfl]
      obtain ⟨e', he'⟩ := Option.isSome_iff_exists.1 hs
      unfold look at he'
      obtain ⟨x, hx, _⟩ := Option.map_eq_some_iff.1 he'
      have := List.find?_some hx
      rw [hx]; simp_all
    · rw [if_neg hq]
      cases hf : S.find? fun e => decide (e.1 = q) with
      | none => rfl
      | some x =>
        have h1 := List.find?_some hf
        have h2 : x.1 = q := by simpa using h1
        simp [h2, hq]
  · rename_i hs
    have hn : look S p = none := by simpa using hs
    unfold look
    rw [List.find?_append]
    by_cases hq : q = p
    · subst hq
      rw [if_pos rfl]
      have : S.find? (fun e => decide (e.1 = q)) = none := by
        rw [List.find?_eq_none]; intro x hx; simpa using look_none.1 hn x hx
      rw [this]; simp
    · rw [if_neg hq]
      have : List.find? (fun e : List UInt8 × Dv => decide (e.1 = q)) [(p, d)] = none := by simp; exact fun e => hq e.symm
      rw [this]; cases S.find? (fun e => decide (e.1 = q)) <;> rfl
/-- The same devices, in order. -/
def SortOf (S R : DS) : Prop := R.Perm S ∧ R.Pairwise fun a b => a.1 < b.1
theorem SortOf.uniq {S R R' : DS} (h : SortOf S R) (h' : SortOf S R') : R = R' := by
  refine List.Perm.eq_of_pairwise (le := fun a b => a.1 < b.1) ?_ h.2 h'.2 (h.1.trans h'.1.symm)
  intro a b _ _ hab hba
  exact absurd hba (List.lt_asymm hab)
theorem SortOf.keys {S R : DS} (h : SortOf S R) : Keys R := h.2.imp fun {a b} (hab : a.1 < b.1) (e : a.1 = b.1) => List.lt_irrefl b.1 (by rw [e] at hab; exact hab)
theorem lt_of_not {a b : List UInt8} (h1 : ¬ a < b) (h2 : a ≠ b) : b < a := by
  by_cases h : b < a
  · exact h
  · exact absurd (List.le_antisymm (List.not_lt.1 h) (List.not_lt.1 h1)) h2
end Go.Proofs.YtjaendlcijmifaaDoor

namespace Go.Proofs.YtjaendlcijmifaaDoor
open Go Wk

theorem putD_keys (S : DS) (p : List UInt8) (d : Dv) (hs : look S p ≠ none) : putD S p d = S.map fun e => if e.1 = p then (p, d) else e := by
  unfold putD; rw [if_pos (by cases h : look S p <;> simp_all)]
theorem putD_new (S : DS) (p : List UInt8) (d : Dv) (hs : look S p = none) : putD S p d = S ++ [(p, d)] := by
  unfold putD; rw [hs]; rfl
section
variable {S R : DS} {p : List UInt8} {k : Nat}
theorem pair_at {α : Type} {r : α → α → Prop} {l : List α} (h : l.Pairwise r) {i j : Nat} {a b : α} (hij : i < j) (ha : l[i]? = some a) (hb : l[j]? = some b) : r a b := by
  have hi := (List.getElem?_eq_some_iff.1 ha)
  have hj := (List.getElem?_eq_some_iff.1 hb)
  have := List.pairwise_iff_getElem.1 h i j hi.1 hj.1 hij
  rwa [hi.2, hj.2] at this
/-- It stands there. -/
theorem SortOf.there (h : SortOf S R) (hk : Keys S) {d d' : Dv} (hp : R[k]? = some (p, d)) : look S p = some d ∧ SortOf (putD S p d') (R.set k (p, d')) := by
  have hl : look S p = some d := hk.look (h.1.mem_iff.1 (List.mem_of_getElem? hp))
  have e : R.set k (p, d') = R.map fun e => if e.1 = p then (p, d') else e := by
    apply List.ext_getElem?
    intro i
    rw [List.getElem?_set, List.getElem?_map]
    have hlt := (List.getElem?_eq_some_iff.1 hp).1
    by_cases hik : k = i
    · subst hik; rw [if_pos rfl, if_pos hlt, hp]; simp
    · rw [if_neg hik]
      cases hi : R[i]? with
      | none => rfl
      | some x =>
        have hne : x.1 ≠ p := by
          intro e
          rcases Nat.lt_or_gt_of_ne hik with hlt | hlt
          · have := pair_at h.keys hlt hp hi; exact this e.symm
          · have := pair_at h.keys hlt hi hp; exact this e
        simp [hne]
  refine ⟨hl, ?_, ?_⟩
  · rw [putD_keys _ _ _ (by rw [hl]; simp), e]
    exact h.1.map _
  · rw [e, List.pairwise_map]
    refine h.2.imp fun {a b} hab => ?_
    have e : ∀ x : List UInt8 × Dv, (if x.1 = p then (p, d') else x).1 = x.1 := fun x => by split <;> simp_all
    rw [e, e]; exact hab
/-- It does not stand there. -/
theorem SortOf.fresh (h : SortOf S R) {d' : Dv} (hlo : ∀ (i : Nat) (x : List UInt8 × Dv), i < k → R[i]? = some x → x.1 < p) (hhi : ∀ x, R[k]? = some x → p < x.1) (hkl : k ≤ R.length) :
    look S p = none ∧ SortOf (putD S p d') (R.take k ++ (p, d') :: R.drop k) := by
  have hafter : ∀ (i : Nat) (x : List UInt8 × Dv), k ≤ i → R[i]? = some x → p < x.1 := by
    intro i x hki hx
    rcases Nat.lt_or_eq_of_le hki with hlt | rfl
    · obtain ⟨y, hy⟩ := get_lt R (k := k) (by have := (List.getElem?_eq_some_iff.1 hx).1; omega)
      exact List.lt_trans (hhi y hy) (pair_at h.2 hlt hy hx)
    · exact hhi x hx
  have hn : look S p = none := look_none.2 fun e he hep => by
    obtain ⟨i, hi⟩ := List.mem_iff_getElem?.1 (h.1.mem_iff.2 he)
    rcases Nat.lt_or_ge i k with hik | hik
    · exact List.lt_irrefl p (by have := hlo i e hik hi; rwa [hep] at this)
    · exact List.lt_irrefl p (by have := hafter i e hik hi; rwa [hep] at this)
  refine ⟨hn, ?_, ?_⟩
  · rw [putD_new _ _ _ hn]
    have h1 : (R.take k ++ (p, d') :: R.drop k).Perm ((p, d') :: (R.take k ++ R.drop k)) := List.perm_middle
    rw [List.take_append_drop] at h1
    exact h1.trans ((h.1.cons _).trans (List.perm_append_comm (l₁ := [(p, d')])))
  · rw [List.pairwise_append]
    refine ⟨h.2.sublist (List.take_sublist _ _), List.pairwise_cons.2 ⟨fun x hx => ?_, h.2.sublist (List.drop_sublist _ _)⟩, fun a ha b hb => ?_⟩
    · obtain ⟨i, hi⟩ := List.mem_iff_getElem?.1 hx
      rw [List.getElem?_drop] at hi
      exact hafter _ x (by omega) hi
    · obtain ⟨i, hi⟩ := List.mem_iff_getElem?.1 ha
      rw [List.getElem?_take] at hi
      split at hi
      · rcases List.mem_cons.1 hb with hb | hb
        · rw [hb]; exact hlo i a (by assumption) hi
        · obtain ⟨j, hj⟩ := List.mem_iff_getElem?.1 hb
          rw [List.getElem?_drop] at hj
          exact List.lt_trans (hlo i a (by assumption) hi) (hafter _ b (by omega) hj)
      · cases hi
end
theorem Keys.step {S S' : DS} (h : Keys S) {p : List UInt8} {k : Nat} (hs : stepD S p k = some S') : Keys S' := by
  unfold stepD at hs
  split at hs
  · cases hs; exact h.put _ _
  · cases hs
theorem Keys.play : ∀ {l : List (List UInt8 × Nat)} {i : Nat} {S S' : DS}, Keys S → playS l i S = .inr S' → Keys S'
  | [], i, S, S', h, hp => by cases hp; exact h
  | x :: r, i, S, S', h, hp => by
    unfold playS at hp
    cases hs : stepD S x.1 x.2 with
    | none => rw [hs] at hp; cases hp
    | some S1 => rw [hs] at hp; exact Keys.play (h.step hs) hp
/-- A device alone. -/
def single (p : List UInt8) : Option Dv → DS
  | none => []
  | some d => [(p, d)]
theorem look_single (p : List UInt8) (o : Option Dv) : look (single p o) p = o := by
  cases o <;> simp [single, look]
theorem put_single (p : List UInt8) (o : Option Dv) (d : Dv) : putD (single p o) p d = single p (some d) := by
  unfold putD
  rw [look_single]
  cases o <;> simp [single]
theorem step_look {S S' : DS} {p q : List UInt8} {k : Nat} (hs : stepD S p k = some S') : look S' q = if q = p then some (doM ((look S p).getD dv0) k) else look S q := by
  unfold stepD at hs
  split at hs
  · cases hs; exact look_put _ _ _
  · cases hs
theorem step_single {S S' : DS} {p : List UInt8} {k : Nat} (hs : stepD S p k = some S') : stepD (single p (look S p)) p k = some (single p (look S' p)) := by
  have h2 := step_look (q := p) hs
  rw [if_pos rfl] at h2
  unfold stepD at hs ⊢
  rw [look_single]
  split at hs
  · rename_i hc; rw [if_pos hc, h2, put_single]
  · cases hs
/-- Each device is what its own events make of it. -/
theorem play_own (p : List UInt8) : ∀ {l : List (List UInt8 × Nat)} {i j : Nat} {S S' : DS}, playS l i S = .inr S' → playS (l.filter fun x => decide (x.1 = p)) j (single p (look S p)) = .inr (single p (look S' p))
  | [], i, j, S, S', hp => by cases hp; rfl
  | x :: r, i, j, S, S', hp => by
    unfold playS at hp
    cases hs : stepD S x.1 x.2 with
    | none => rw [hs] at hp; cases hp
    | some S1 =>
      rw [hs] at hp
      rw [List.filter_cons]
      by_cases hx : x.1 = p
      · rw [if_pos (by simpa using hx)]
        unfold playS
        rw [hx] at hs ⊢
        rw [step_single hs]
        exact play_own p hp
      · rw [if_neg (by simpa using hx)]
        have := step_look (q := p) hs
        rw [if_neg (fun e => hx e.symm)] at this
        rw [← this]
        exact play_own p hp
/-- Where it stops, and just there. -/
theorem play_stop : ∀ {l : List (List UInt8 × Nat)} {i n : Nat} {S : DS}, playS l i S = .inl n → i ≤ n ∧ n < i + l.length ∧ (∃ S', playS (l.take (n - i)) i S = .inr S') ∧ playS (l.take (n - i + 1)) i S = .inl n
  | [], i, n, S, hp => by cases hp
  | x :: r, i, n, S, hp => by
    have hp0 := hp
    unfold playS at hp
    cases hs : stepD S x.1 x.2 with
    | none =>
      rw [hs] at hp
      cases hp
      refine ⟨Nat.le_refl _, by simp, ⟨S, by rw [Nat.sub_self]; rfl⟩, ?_⟩
      rw [Nat.sub_self, Nat.zero_add, List.take_succ_cons, List.take_zero]
      unfold playS; rw [hs]
    | some S1 =>
      rw [hs] at hp
      obtain ⟨h1, h2, ⟨S', h3⟩, h4⟩ := play_stop hp
      refine ⟨by omega, by simp only [List.length_cons]; omega, ⟨S', ?_⟩, ?_⟩
      · rw [show n - i = (n - (i + 1)) + 1 by omega, List.take_succ_cons]
        unfold playS; rw [hs]; exact h3
      · rw [show n - i + 1 = (n - (i + 1) + 1) + 1 by omega, List.take_succ_cons]
        unfold playS; rw [hs]; exact h4
/-- One event more. -/
theorem play_snoc : ∀ {l : List (List UInt8 × Nat)} {i : Nat} {S S1 : DS} {x : List UInt8 × Nat}, playS l i S = .inr S1 → playS (l ++ [x]) i S = match stepD S1 x.1 x.2 with | none => .inl (i + l.length) | some S' => .inr S'
  | [], i, S, S1, x, hp => by
    cases hp
    show playS [x] i S = _
    unfold playS
    cases stepD S x.1 x.2 <;> rfl
  | y :: r, i, S, S1, x, hp => by
    unfold playS at hp
    cases hs : stepD S y.1 y.2 with
    | none => rw [hs] at hp; cases hp
    | some S2 =>
      rw [hs] at hp
      have := play_snoc (x := x) hp
      rw [List.cons_append]
      conv => lhs; unfold playS
      rw [hs]
      dsimp only
      rw [this, List.length_cons, show i + 1 + r.length = i + (r.length + 1) by omega]
/-- A stop stays where it is, whatever comes behind. -/
theorem play_more : ∀ {l r : List (List UInt8 × Nat)} {i n : Nat} {S : DS}, playS l i S = .inl n → playS (l ++ r) i S = .inl n
  | [], r, i, n, S, hp => by cases hp
  | y :: l, r, i, n, S, hp => by
    unfold playS at hp
    rw [List.cons_append]
    unfold playS
    cases hs : stepD S y.1 y.2 with
    | none => rw [hs] at hp; exact hp
    | some S2 => rw [hs] at hp; exact play_more hp
end Go.Proofs.YtjaendlcijmifaaDoor

namespace Go.Proofs.YtjaendlcijmifaaDoor.Wk
open Go Go.RowKit

/-- What a lookup may tell. -/
def Tells (l : List (Value × Value)) (key z r : Value) : Prop := (key, r) ∈ l ∨ r = z ∧ ∀ p ∈ l, p.1 ≠ key
/-- A map with the stamps of its entries. -/
def MapK (P : Program) (k : TypeId) (w : World) (b : Nat) (l : List (Value × Value)) : Prop :=
  ∃ es clock, w.heap[b]? = some (.map es clock) ∧ es.toList.map (fun e => (e.key, e.val)) = l ∧ (∀ e ∈ es.toList, ∃ q, keyOf P k e.key = some q) ∧ (∀ e ∈ es.toList, e.born < clock) ∧ (es.toList.map (·.born)).Nodup
theorem MapK.toL {P : Program} {k : TypeId} {w : World} {b : Nat} {l : List (Value × Value)} (h : MapK P k w b l) : MapL P k w b l := by
  obtain ⟨es, clock, h1, h2, h3, _⟩ := h
  exact ⟨es, clock, h1, h2, h3⟩
theorem MapK.chg {P : Program} {k : TypeId} {w w' : World} {M : Nat → Prop} {b : Nat} {l : List (Value × Value)} (h : MapK P k w b l) (hc : Chg M w w') (hb : ¬ M b) : MapK P k w' b l := by
  have hl := h.toL.lt
  obtain ⟨es, clock, h, r⟩ := h
  exact ⟨es, clock, (hc.block b hl hb).trans h, r⟩
/-- An entry has been found or laid; it waits for its value. -/
def MapP (P : Program) (k : TypeId) (w : World) (b : Nat) (l : List (Value × Value)) (stamp j : Nat) : Prop :=
  ∃ es clock, w.heap[b]? = some (.map es clock) ∧ es.toList.map (fun e => (e.key, e.val)) = l ∧ (∀ e ∈ es.toList, ∃ q, keyOf P k e.key = some q) ∧ (∀ e ∈ es.toList, e.born < clock) ∧ (es.toList.map (·.born)).Nodup ∧ ∃ e, es.toList[j]? = some e ∧ e.born = stamp
theorem MapP.toL {P : Program} {k : TypeId} {w : World} {b : Nat} {l : List (Value × Value)} {stamp j : Nat} (h : MapP P k w b l stamp j) : MapL P k w b l := by
  obtain ⟨es, clock, h1, h2, h3, _⟩ := h
  exact ⟨es, clock, h1, h2, h3⟩
theorem pair_set {l : List (Value × Value)} {key v u : Value} {j : Nat} (hj : l[j]? = some (key, v)) (hnd : (l.map (·.1)).Nodup) : (key, u) ∈ l.set j (key, u) ∧ ∀ r, (key, r) ∈ l.set j (key, u) → r = u := by
  have hjl := (List.getElem?_eq_some_iff.1 hj).1
  refine ⟨List.mem_iff_getElem?.2 ⟨j, by rw [List.getElem?_set, if_pos rfl, if_pos hjl]⟩, fun r hr => ?_⟩
  obtain ⟨i, hi⟩ := List.mem_iff_getElem?.1 hr
  rw [List.getElem?_set] at hi
  split at hi
  · simp only [Option.some.injEq, Prod.mk.injEq] at hi
    exact hi.2.symm
  · rename_i hne
    exfalso
    have h1 : (l.map (·.1))[i]? = some key := by rw [List.getElem?_map, hi]; rfl
    have h2 : (l.map (·.1))[j]? = some key := by rw [List.getElem?_map, hj]; rfl
    have hil := (List.getElem?_eq_some_iff.1 h1).1
    exact hne ((List.getElem?_inj hil hnd).1 (h1.trans h2.symm)).symm
section
variable {P : Program} {n : Nat} {ds : List Deferred} {Q : Po} {F : Fr} {w w' : World} {ops rest : List Oper} {d : Nat} {ty : TypeId} {pos : String} {aft : Array Edge}
theorem run_lookupOk {t k e : TypeId} {sz bytes : Nat} {agg : Bool} {z : Value} {b : Nat} {l : List (Value × Value)} {key : Value} {q : Lit} (ht : P.underlying t = some (.map k e)) (he : ElT P e sz bytes agg z) (Kd : Maps.Keyed P k) (h : MapL P k w b l) (hq : keyOf P k key = some q) :
    ∃ r f, (Instr.lookup t (.map (some b)) key true).run P w = .ok (.tuple #[r, .bool f]) w ∧ (f = true ∧ (key, r) ∈ l ∨ f = false ∧ r = z ∧ ∀ p ∈ l, p.1 ≠ key) := by
  obtain ⟨es, clock, hh, rfl, hk⟩ := h
  have hg := run_getObj_map (P := P) w b es clock hh
  rcases Kd.find w hq es.toList hk with ⟨hf, hn⟩ | ⟨j, e0, hf, hj, rfl⟩
  · refine ⟨z, false, ?_, .inr ⟨rfl, rfl, fun p hp => ?_⟩⟩
    · simp [Instr.lookup, run_underlying ht, hg, Kd.check w _ hq, hf, he.zeroValue]
    · obtain ⟨e1, he1, rfl⟩ := List.mem_map.1 hp; exact hn e1 he1
  · refine ⟨e0.val, true, ?_, .inl ⟨rfl, List.mem_map.2 ⟨e0, List.mem_of_getElem? hj, rfl⟩⟩⟩
    simp [Instr.lookup, run_underlying ht, hg, Kd.check w _ hq, hf]
/-- v, ok := m[k]. -/
theorem Wl.lookupOk {x i : Operand} {t k e : TypeId} {sz bytes : Nat} {agg : Bool} {z : Value} {b : Nat} {l : List (Value × Value)} {key : Value} {q : Lit} [ht : Und P t (.map k e)] [he : ElT P e sz bytes agg z] (Kd : Maps.Keyed P k) (h : MapL P k w b l) (hq : keyOf P k key = some q)
    (hx : ev n F x = .map (some b)) (hi : ev n F i = key) (c1 : ∀ r, (key, r) ∈ l → Wl P n ds Q ops rest (upd F d (.tuple #[r, .bool true])) w) (c2 : (∀ p ∈ l, p.1 ≠ key) → Wl P n ds Q ops rest (upd F d (.tuple #[z, .bool false])) w) :
    Wl P n ds Q ops (⟨some d, .lookup t x i true, ty, pos, aft, none⟩ :: rest) F w := by
  obtain ⟨r, f, hr, ⟨rfl, hp⟩ | ⟨rfl, rfl, hp⟩⟩ := run_lookupOk ht.h he Kd h hq
  · exact Wl.val (by simp only [execOp, hx, hi, Sem.run_bind, hr, Result.andThen_ok, Sem.run_pure]) (c1 r hp)
  · exact Wl.val (by simp only [execOp, hx, hi, Sem.run_bind, hr, Result.andThen_ok, Sem.run_pure]) (c2 hp)
/-- m[k] = u where k was there. -/
theorem Wl.mapSet {x i y : Operand} {t k e : TypeId} {b : Nat} {l : List (Value × Value)} {key v0 u : Value} {q : Lit} [ht : Und P t (.map k e)] (Kd : Maps.Keyed P k) (h : MapL P k w b l) (hq : keyOf P k key = some q) (hin : (key, v0) ∈ l) (hnd : (l.map (·.1)).Nodup)
    (hx : ev n F x = .map (some b)) (hi : ev n F i = key) (hy : ev n F y = u) (c : ∀ w' l', MapL P k w' b l' → (key, u) ∈ l' → (∀ r, (key, r) ∈ l' → r = u) → Chg (fun j => j = b) w w' → Wl P n ds Q ops rest F w') :
    Wl P n ds Q ops (⟨none, .mapUpdate t x i y, ty, pos, aft, none⟩ :: rest) F w := by
  have hlt := h.lt
  obtain ⟨es, clock, hh, rfl, hk⟩ := h
  have hg := run_getObj_map (P := P) w b es clock hh
  rcases Kd.find w hq es.toList hk with ⟨hf, hn⟩ | ⟨j, e0, hf, hj, rfl⟩
  · obtain ⟨e1, he1, e2⟩ := List.mem_map.1 hin
    simp only [Prod.mk.injEq] at e2
    exact absurd e2.1 (hn e1 he1)
  · let es' := es.modify j fun e => { e with key := e0.key, val := u }
    have hl' : es'.toList = es.toList.set j { e0 with val := u } := by
      have hjs := (List.getElem?_eq_some_iff.1 hj)
      apply List.ext_getElem?
      intro m
      simp only [es', Array.getElem?_toList, Array.getElem?_modify, List.getElem?_set]
      by_cases hm : j = m
      · subst hm
        simp only [if_true]
        rw [if_pos hjs.1]
        rw [Array.getElem?_toList] at hj
        rw [hj]; rfl
      · rw [if_neg hm, if_neg hm]
    have h1 : (w.heap.setIfInBounds b (.map es' clock))[b]? = some (.map es' clock) := by simp [Array.getElem?_setIfInBounds, hlt]
    have hset : (setObj b (.map es' clock)).run P w = .ok () { w with heap := w.heap.setIfInBounds b (.map es' clock) } := by simp [setObj, Sem.run, hh]
    have hpj : (es.toList.map (fun e => (e.key, e.val)))[j]? = some (e0.key, e0.val) := by rw [List.getElem?_map, hj]; rfl
    have hmap : es'.toList.map (fun e => (e.key, e.val)) = (es.toList.map (fun e => (e.key, e.val))).set j (e0.key, u) := by rw [hl', List.map_set]
    obtain ⟨p1, p2⟩ := pair_set (u := u) hpj hnd
    refine Wl.unit (w' := { w with heap := w.heap.setIfInBounds b (.map es' clock) }) ?_ (c _ _ ⟨_, _, h1, hmap, fun e he => ?_⟩ p1 p2 ⟨rfl, rfl, rfl, by simp, fun j _ hj => Array.getElem?_setIfInBounds_ne (Ne.symm hj)⟩)
    · have hst := Kd.stays w hq
      have hj' : es[j]? = some e0 := by rw [Array.getElem?_toList] at hj; exact hj
      simp [execOp, hx, hi, hy, Instr.mapUpdate, run_underlying ht.h, hg, Kd.check w _ hq, hf, hj', hst, hset, es']
    · rw [hl'] at he
      rcases List.mem_or_eq_of_mem_set he with he | rfl
      · exact hk e he
      · exact hk e0 (List.mem_of_getElem? hj)
theorem Wl.mapEntry {x i : Operand} {t k e sz bytes : Nat} {agg : Bool} {z : Value} {b : Nat} {l : List (Value × Value)} {key : Value} {q : Lit} [ht : Und P t (.map k e)] [he : ElT P e sz bytes agg z] (Kd : Maps.Keyed P k) (h : MapK P k w b l) (hq : keyOf P k key = some q)
    (hx : ev n F x = .map (some b)) (hi : ev n F i = key)
    (c : ∀ w' l' j v stamp, MapP P k w' b l' stamp j → (l' = l ++ [(key, z)] ∧ j = l.length ∧ v = z ∧ (∀ p ∈ l, p.1 ≠ key) ∨ l' = l ∧ l[j]? = some (key, v)) → Chg (fun j => j = b) w w' → Wl P n ds Q ops rest (upd F d (.tuple #[v, vi (stamp : Nat)])) w') :
    Wl P n ds Q ops (⟨some d, .mapEntry t x i, ty, pos, aft, none⟩ :: rest) F w := by
  have hlt := h.toL.lt
  obtain ⟨es, clock, hh, rfl, hk, hb, hnb⟩ := h
  have hg := run_getObj_map (P := P) w b es clock hh
  have hrun : ∀ o, (setObj b o).run P w = .ok () { w with heap := w.heap.setIfInBounds b o } ∨ True := fun _ => .inr trivial
  rcases Kd.find w hq es.toList hk with ⟨hf, hn⟩ | ⟨j, e0, hf, hj, rfl⟩
  · let es' := es.push { key, val := z, born := clock }
    have h1 : (w.heap.setIfInBounds b (.map es' (clock + 1)))[b]? = some (.map es' (clock + 1)) := by simp [Array.getElem?_setIfInBounds, hlt]
    have hset : (setObj b (.map es' (clock + 1))).run P w = .ok () { w with heap := w.heap.setIfInBounds b (.map es' (clock + 1)) } := by simp [setObj, Sem.run, hh]
    refine Wl.val (w' := { w with heap := w.heap.setIfInBounds b (.map es' (clock + 1)) }) (v := .tuple #[z, vi (clock : Nat)]) ?_ (c _ _ es.toList.length z clock ⟨es', clock + 1, h1, rfl, fun e he => ?_, fun e he => ?_, ?_, ⟨{ key, val := z, born := clock }, ?_, rfl⟩⟩ (.inl ⟨by simp [es'], by simp, rfl, fun p hp => ?_⟩) ⟨rfl, rfl, rfl, by simp, fun j _ hj => Array.getElem?_setIfInBounds_ne (Ne.symm hj)⟩)
    · simp [execOp, hx, hi, Instr.mapEntry, run_underlying ht.h, hg, Kd.check w _ hq, hf, he.zeroValue, hset, es', goInt]
    · simp only [es', Array.toList_push, List.mem_append, List.mem_singleton] at he
      rcases he with he | rfl
      · exact hk e he
      · exact ⟨q, hq⟩
    · simp only [es', Array.toList_push, List.mem_append, List.mem_singleton] at he
      rcases he with he | rfl
      · have := hb e he; omega
      · exact Nat.lt_succ_self _
    · simp only [es', Array.toList_push, List.map_append, List.map_cons, List.map_nil]
      rw [List.nodup_append]
      refine ⟨hnb, by simp, fun a ha c hc => ?_⟩
      obtain ⟨e1, he1, rfl⟩ := List.mem_map.1 ha
      simp only [List.mem_singleton] at hc
      have := hb e1 he1
      omega
    · simp [es']
    · obtain ⟨e1, he1, rfl⟩ := List.mem_map.1 hp
      exact hn e1 he1
  · let es' := es.modify j fun e => { e with key := e0.key }
    have hl' : es'.toList = es.toList := by
      apply List.ext_getElem?
      intro m
      simp only [es', Array.getElem?_toList, Array.getElem?_modify]
      by_cases hm : j = m
      · subst hm
        simp only [if_true]
        rw [Array.getElem?_toList] at hj
        rw [hj]; rfl
      · rw [if_neg hm]
    have h1 : (w.heap.setIfInBounds b (.map es' clock))[b]? = some (.map es' clock) := by simp [Array.getElem?_setIfInBounds, hlt]
    have hset : (setObj b (.map es' clock)).run P w = .ok () { w with heap := w.heap.setIfInBounds b (.map es' clock) } := by simp [setObj, Sem.run, hh]
    refine Wl.val (w' := { w with heap := w.heap.setIfInBounds b (.map es' clock) }) (v := .tuple #[e0.val, vi (e0.born : Nat)]) ?_ (c _ _ j e0.val e0.born ⟨es', clock, h1, by rw [hl'], by rw [hl']; exact hk, by rw [hl']; exact hb, by rw [hl']; exact hnb, ⟨e0, by rw [hl']; exact hj, rfl⟩⟩ (.inr ⟨rfl, by rw [List.getElem?_map, hj]; rfl⟩) ⟨rfl, rfl, rfl, by simp, fun j _ hj => Array.getElem?_setIfInBounds_ne (Ne.symm hj)⟩)
    have hst := Kd.stays w hq
    have hj' : es[j]? = some e0 := by rw [Array.getElem?_toList] at hj; exact hj
    simp [execOp, hx, hi, Instr.mapEntry, run_underlying ht.h, hg, Kd.check w _ hq, hf, hj', hst, hset, es', goInt]
theorem Wl.entryStore {x s y : Operand} {t k : TypeId} {b : Nat} {l : List (Value × Value)} {key v u : Value} {stamp j : Nat} (h : MapP P k w b l stamp j) (hj : l[j]? = some (key, v))
    (hx : ev n F x = .map (some b)) (hs : ev n F s = vi (stamp : Nat)) (hy : ev n F y = u) (c : ∀ w', MapK P k w' b (l.set j (key, u)) → Chg (fun j => j = b) w w' → Wl P n ds Q ops rest F w') :
    Wl P n ds Q ops (⟨none, .entryStore t x s y, ty, pos, aft, none⟩ :: rest) F w := by
  have hlt := h.toL.lt
  obtain ⟨es, clock, hh, rfl, hk, hb, hnb, e0, hj0, rfl⟩ := h
  have hg := run_getObj_map (P := P) w b es clock hh
  rw [List.getElem?_map, hj0] at hj
  simp only [Option.map_some, Option.some.injEq, Prod.mk.injEq] at hj
  obtain ⟨rfl, rfl⟩ := hj
  let es' := es.modify j fun e => { e with val := u }
  have hj' : es[j]? = some e0 := by rw [Array.getElem?_toList] at hj0; exact hj0
  have hl' : es'.toList = es.toList.set j { e0 with val := u } := by
    have hjs := (List.getElem?_eq_some_iff.1 hj0)
    apply List.ext_getElem?
    intro m
    simp only [es', Array.getElem?_toList, Array.getElem?_modify, List.getElem?_set]
    by_cases hm : j = m
    · subst hm
      simp only [if_true]
      rw [if_pos hjs.1, hj']; rfl
    · rw [if_neg hm, if_neg hm]
  have hfind : es.findIdx? (fun e => (e.born : Int) == (e0.born : Int)) = some j := by
    have : es.toList.findIdx? (fun e => (e.born : Int) == (e0.born : Int)) = some j := by
      rw [List.findIdx?_eq_some_iff_getElem]
      have hjs := List.getElem?_eq_some_iff.1 hj0
      refine ⟨hjs.1, by rw [hjs.2]; simp, fun i hi hc => ?_⟩
      have hlt2 : i < es.toList.length := Nat.lt_trans hi hjs.1
      have e1 : (es.toList.map (·.born))[i]? = some e0.born := by
        rw [List.getElem?_map, List.getElem?_eq_getElem hlt2]
        have : (es.toList[i]).born = e0.born := by simp only [beq_iff_eq] at hc; omega
        rw [Option.map_some, this]
      have e2 : (es.toList.map (·.born))[j]? = some e0.born := by rw [List.getElem?_map, hj0]; rfl
      have := (List.getElem?_inj (List.getElem?_eq_some_iff.1 e1).1 hnb).1 (e1.trans e2.symm)
      omega
    rwa [← List.findIdx?_toArray, Array.toArray_toList] at this
  have h1 : (w.heap.setIfInBounds b (.map es' clock))[b]? = some (.map es' clock) := by simp [Array.getElem?_setIfInBounds, hlt]
  have hset : (setObj b (.map es' clock)).run P w = .ok () { w with heap := w.heap.setIfInBounds b (.map es' clock) } := by simp [setObj, Sem.run, hh]
  refine Wl.unit (w' := { w with heap := w.heap.setIfInBounds b (.map es' clock) }) ?_ (c _ ⟨es', clock, h1, by rw [hl', List.map_set], fun e he => ?_, fun e he => ?_, ?_⟩ ⟨rfl, rfl, rfl, by simp, fun j _ hj => Array.getElem?_setIfInBounds_ne (Ne.symm hj)⟩)
  · simp [execOp, hx, hs, hy, Instr.entryStore, hg, asInt, asIntOf, hfind, hset, es']
  · rw [hl'] at he
    rcases List.mem_or_eq_of_mem_set he with he | rfl
    · exact hk e he
    · exact hk e0 (List.mem_of_getElem? hj0)
  · rw [hl'] at he
    rcases List.mem_or_eq_of_mem_set he with he | rfl
    · exact hb e he
    · exact hb e0 (List.mem_of_getElem? hj0)
  · rw [hl', List.map_set]
    have e2 : (es.toList.map (·.born))[j]? = some e0.born := by rw [List.getElem?_map, hj0]; rfl
    have : (es.toList.map (·.born)).set j e0.born = es.toList.map (·.born) := by
      apply List.ext_getElem?
      intro m
      rw [List.getElem?_set]
      split
      · rename_i hm
        subst hm
        rw [if_pos (List.getElem?_eq_some_iff.1 e2).1, e2]
      · rfl
    show ((es.toList.map (·.born)).set j e0.born).Nodup
    rw [this]; exact hnb
theorem Wl.makeMapK {t : TypeId} {k : TypeId} (c : ∀ w', MapK P k w' w.heap.size [] → New w w' → w'.heap.size = w.heap.size + 1 → Wl P n ds Q ops rest (upd F d (.map (some w.heap.size))) w') :
    Wl P n ds Q ops (⟨some d, .makeMap t none, ty, pos, aft, none⟩ :: rest) F w := by
  refine Wl.val (w' := w.alloc (.map #[] 0)) (v := .map (some w.heap.size)) ?_ (c _ ⟨#[], 0, heap_alloc_new w _, by simp, by simp, by simp, by simp⟩ (Chg.alloc _ _ _) (by simp))
  simp [execOp, Instr.makeMap]
theorem Wq.lookupT {C : World → Prop} {K : Fr → Prop} {x i : Operand} {t k e sz bytes : Nat} {agg : Bool} {z r0 : Value} {b : Nat} {key : Value} {q : Lit} [ht : Und P t (.map k e)] [he : ElT P e sz bytes agg z] (Kd : Maps.Keyed P k) (hC : ∀ w, C w → ∃ l, MapL P k w b l ∧ ∀ r, Tells l key z r → r = r0) (hq : keyOf P k key = some q)
    (hx : ev n F x = .map (some b)) (hi : ev n F i = key) (c : Wq P n ds C K ops rest (upd F d r0)) : Wq P n ds C K ops (⟨some d, .lookup t x i false, ty, pos, aft, none⟩ :: rest) F := by
  refine Wq.val (fun w hw => ?_) c
  obtain ⟨l, h, hr⟩ := hC w hw
  obtain ⟨r, h1, h2⟩ := run_lookup ht.h he Kd h hq
  rw [← hr r h2]
  simp only [execOp, hx, hi, Sem.run_bind, h1, Result.andThen_ok, Sem.run_pure]
theorem Wq.buildF {C : World → Prop} {K : Fr → Prop} {t : TypeId} {m sz bytes : Nat} {agg : Bool} {z : Value} {ps : List (Nat × Operand)} {parts : List (Nat × Value)} [hf : Flat P t m] [he : ElT P t sz bytes agg z] (hz : z.cells.size = m) (hps : ps.map (fun p => (p.1, ev n F p.2)) = parts) (hp : ∀ p ∈ parts, p.1 < m ∧ p.2.cells = #[p.2])
    (c : Wq P n ds C K ops rest (upd F d (.agg (setAll z.cells parts)))) : Wq P n ds C K ops (⟨some d, .build t ps.toArray, ty, pos, aft, none⟩ :: rest) F := by
  refine Wq.val (fun w _ => ?_) c
  subst hps
  have := run_buildF (P := P) (w := w) hf he hz hp
  simp only [execOp, List.map_toArray, Sem.run_bind]
  rw [this]; rfl
/-- An array of elements of one cell by its parts. -/
theorem Wl.buildA {t e m sz bytes ebytes : Nat} {agg eagg : Bool} {z ez : Value} {ps : List (Nat × Operand)} {parts : List (Nat × Value)} {cs : List Value} [ht : Und P t (.array m e)] [hee : ElT P e 1 ebytes eagg ez] [he : ElT P t sz bytes agg z] (hz : z.cells.size = m) (hps : ps.map (fun p => (p.1, ev n F p.2)) = parts) (hp : ∀ p ∈ parts, p.1 < m ∧ p.2.cells = #[p.2])
    (hcs : setAll z.cells parts = cs.toArray) (c : Wl P n ds Q ops rest (upd F d (.agg cs.toArray)) w) : Wl P n ds Q ops (⟨some d, .build t ps.toArray, ty, pos, aft, none⟩ :: rest) F w := by
  refine Wl.val ?_ c
  subst hps
  have hfill := fill_flat (m := m) (places := fun i => some (i * 1, 1)) _ z.cells hz (fun i _ => by rw [Nat.mul_one]) hp
  have : (Instr.build t (ps.map (fun p => (p.1, ev n F p.2))).toArray).run P w = .ok (.agg cs.toArray) w := by
    simp only [Instr.build, Sem.run_bind, he.zeroValue, Result.andThen_ok, run_underlying ht.h, hee.sizeOf, hfill, hcs, Sem.run_pure]
  simp only [execOp, List.map_toArray, Sem.run_bind]
  rw [this]; rfl
end
end Go.Proofs.YtjaendlcijmifaaDoor.Wk

namespace Go.Proofs.YtjaendlcijmifaaDoor
open Go Wk
open Go.RowKit (Below)
attribute [local irreducible] Go.Calls

section
variable {P : Program} {n : Nat} {ds : List Deferred} {Q : Po} {F : Fr} {w : World} {ops rest : List Oper} {d : Nat} {ty : TypeId} {pos : String} {aft : Array Edge}
theorem Wk.Wl.mapInsP {x i y : Operand} {t k e : TypeId} {b : Nat} {l : List (Value × Value)} {key u : Value} {q : Lit} [ht : Und P t (.map k e)] (Kd : Maps.Keyed P k) (h : MapL P k w b l) (hq : keyOf P k key = some q) (hn : ∀ p ∈ l, p.1 ≠ key)
    (hx : ev n F x = .map (some b)) (hi : ev n F i = key) (hy : ev n F y = u) (c : ∀ w', MapL P k w' b (l ++ [(key, u)]) → Chg (fun j => j = b) w w' → w'.heap.size = w.heap.size → Wl P n ds Q ops rest F w') :
    Wl P n ds Q ops (⟨none, .insert t x i y, ty, pos, aft, none⟩ :: rest) F w := by
  have hlt := h.lt
  obtain ⟨es, clock, hh, rfl, hk⟩ := h
  have hg := run_getObj_map (P := P) w b es clock hh
  rcases Kd.find w hq es.toList hk with ⟨hf, _⟩ | ⟨j, e0, hf, hj, rfl⟩
  · have h1 : (w.heap.setIfInBounds b (.map (es.push { key, val := u, born := clock }) (clock + 1)))[b]? = some (.map (es.push { key, val := u, born := clock }) (clock + 1)) := by simp [Array.getElem?_setIfInBounds, hlt]
    have hset : (setObj b (.map (es.push { key, val := u, born := clock }) (clock + 1))).run P w = .ok () { w with heap := w.heap.setIfInBounds b (.map (es.push { key, val := u, born := clock }) (clock + 1)) } := by simp [setObj, Sem.run, hh]
    refine Wl.unit (w' := { w with heap := w.heap.setIfInBounds b (.map (es.push { key, val := u, born := clock }) (clock + 1)) }) ?_ (c _ ⟨_, _, h1, by simp, fun e he => ?_⟩ ⟨rfl, rfl, rfl, by simp, fun j _ hj => Array.getElem?_setIfInBounds_ne (Ne.symm hj)⟩ (by simp))
    · simp [execOp, hx, hi, hy, Instr.mapUpdate, run_underlying ht.h, hg, Kd.check w _ hq, hf, hset]
    · simp only [Array.toList_push, List.mem_append, List.mem_singleton] at he
      rcases he with he | rfl
      · exact hk e he
      · exact ⟨q, hq⟩
  · exfalso
    have hm := List.mem_of_getElem? hj
    exact hn (e0.key, e0.val) (List.mem_map.2 ⟨e0, hm, rfl⟩) rfl
end
abbrev tDev : TypeId := 66
def dvC (p : List UInt8) (d : Dv) : List Value := [vs p, .bool d.bo, .bool d.on, .bool d.sl, .bool d.go]
abbrev dvV (p : List UInt8) (d : Dv) : Value := .agg (dvC p d).toArray
theorem dvC_one (p : List UInt8) (d : Dv) : ∀ c ∈ dvC p d, c.oneCell' = true := by
  intro c hc
  simp only [dvC, List.mem_cons, List.not_mem_nil, or_false] at hc
  rcases hc with rfl | rfl | rfl | rfl | rfl <;> rfl
def mayF (k : Nat) : Nat := [0, 67, 69, 71, 73, 75, 77, 79, 81, 83].getD k 0
def doF (k : Nat) : Nat := [0, 68, 70, 72, 74, 76, 78, 80, 82, 84].getD k 0
def ruleV (k : Nat) : Value := .agg #[.func (.func (mayF k)) #[] #[], .func (.func (doF k)) #[] #[]]
def ruleL : List (Value × Value) := [1, 2, 3, 4, 5, 6, 7, 8, 9].map fun k : Nat => (.int .u8 k, ruleV k)
theorem kinds9 {k : Nat} (h0 : 1 ≤ k) (h9 : k ≤ 9) : k = 1 ∨ k = 2 ∨ k = 3 ∨ k = 4 ∨ k = 5 ∨ k = 6 ∨ k = 7 ∨ k = 8 ∨ k = 9 := by omega
theorem may1 {w : World} {p : List UInt8} {d : Dv} : Calls Tryd.prog 67 #[dvV p d] w (Ret fun r w' => r = .bool (mayM d 1) ∧ New w w') := by
  rcases d with ⟨bo, on, sl, go⟩
  cases go <;> cases bo <;> (
    refine calls_of_Wc Tryd.func67 rfl Tryd.ntmps67 rfl ?_
    (repeat' (first | refine Wl.moveE (by conv => { lhs; whnf }) ?_ | refine Wl.assignE (by conv => { lhs; whnf }) ?_ | refine Wl.nil ?_ | refine Wl.extract rfl rfl ?_ | refine Wl.guardY rfl rfl ?_ | refine Wl.guardN rfl rfl ?_ | refine Wl.guardU rfl ?_ | refine Wl.pickTE rfl (by conv => { lhs; whnf }) ?_ | refine Wl.pickFE rfl (by conv => { lhs; whnf }) ?_ | refine Wl.notB rfl ?_ | refine Wl.lenS rfl ?_ | refine Wl.lenStr rfl ?_ | refine Qseq.normal ?_ | refine Wc.seq ?_ | refine Wc.region ?_ | refine Wc.block ?_ | refine Wc.skip ?_ | refine Wc.exit ?_ | refine Wc.ret ?_ | refine Qseq.exit ?_ | refine Qseq.ret ?_ | refine Wc.scope ?_ | refine Wc.label ?_ | refine Qsc.normal ?_ | refine Qsc.exit ?_ | refine Qsc.ret ?_ | refine Qblk.normal ?_ | refine Qblk.ret ?_ | refine Qblk.hit ?_ | refine Qblk.miss rfl ?_ | refine Qloop.exit ?_ | refine Qloop.ret ?_ | refine Wc.condT rfl ?_ | refine Wc.condF rfl ?_ | refine Wl.nilP rfl ?_ | refine Wl.fieldAddr rfl rfl ?_ | refine Wl.nilF rfl ?_ | refine Wl.add rfl rfl (by omega) (by omega) ?_ | refine Wl.sub rfl rfl (by omega) (by omega) ?_ | refine Wl.mul rfl rfl (by omega) (by omega) ?_ | refine Wl.convI rfl ?_ | (refine Wl.lss rfl rfl (fun _ => ?_) (fun _ => ?_) <;> (first | (exfalso; omega) | (exfalso; contradiction) | skip)) | (refine Wl.leq rfl rfl (fun _ => ?_) (fun _ => ?_) <;> (first | (exfalso; omega) | (exfalso; contradiction) | skip)) | (refine Wl.gtr rfl rfl (fun _ => ?_) (fun _ => ?_) <;> (first | (exfalso; omega) | (exfalso; contradiction) | skip)) | (refine Wl.geq rfl rfl (fun _ => ?_) (fun _ => ?_) <;> (first | (exfalso; omega) | (exfalso; contradiction) | skip)) | (refine Wl.eql rfl rfl (fun _ => ?_) (fun _ => ?_) <;> (first | (exfalso; omega) | (exfalso; contradiction) | skip)) | (refine Wl.neq rfl rfl (fun _ => ?_) (fun _ => ?_) <;> (first | (exfalso; omega) | (exfalso; contradiction) | skip)) | (refine Wl.seql rfl rfl (fun _ => ?_) (fun _ => ?_) <;> (first | (exfalso; omega) | (exfalso; contradiction) | skip)) | (refine Wl.sneq rfl rfl (fun _ => ?_) (fun _ => ?_) <;> (first | (exfalso; omega) | (exfalso; contradiction) | skip))))
    refine Wl.box rfl fun w1 b1 n1 s1 => ?_
    replace b1 : Bk w1 w.heap.size tDev (dvC p _) := b1
    (repeat' (first | refine Wl.moveE (by conv => { lhs; whnf }) ?_ | refine Wl.assignE (by conv => { lhs; whnf }) ?_ | refine Wl.nil ?_ | refine Wl.extract rfl rfl ?_ | refine Wl.guardY rfl rfl ?_ | refine Wl.guardN rfl rfl ?_ | refine Wl.guardU rfl ?_ | refine Wl.pickTE rfl (by conv => { lhs; whnf }) ?_ | refine Wl.pickFE rfl (by conv => { lhs; whnf }) ?_ | refine Wl.notB rfl ?_ | refine Wl.lenS rfl ?_ | refine Wl.lenStr rfl ?_ | refine Qseq.normal ?_ | refine Wc.seq ?_ | refine Wc.region ?_ | refine Wc.block ?_ | refine Wc.skip ?_ | refine Wc.exit ?_ | refine Wc.ret ?_ | refine Qseq.exit ?_ | refine Qseq.ret ?_ | refine Wc.scope ?_ | refine Wc.label ?_ | refine Qsc.normal ?_ | refine Qsc.exit ?_ | refine Qsc.ret ?_ | refine Qblk.normal ?_ | refine Qblk.ret ?_ | refine Qblk.hit ?_ | refine Qblk.miss rfl ?_ | refine Qloop.exit ?_ | refine Qloop.ret ?_ | refine Wc.condT rfl ?_ | refine Wc.condF rfl ?_ | refine Wl.nilP rfl ?_ | refine Wl.fieldAddr rfl rfl ?_ | refine Wl.nilF rfl ?_ | refine Wl.add rfl rfl (by omega) (by omega) ?_ | refine Wl.sub rfl rfl (by omega) (by omega) ?_ | refine Wl.mul rfl rfl (by omega) (by omega) ?_ | refine Wl.convI rfl ?_ | (refine Wl.lss rfl rfl (fun _ => ?_) (fun _ => ?_) <;> (first | (exfalso; omega) | (exfalso; contradiction) | skip)) | (refine Wl.leq rfl rfl (fun _ => ?_) (fun _ => ?_) <;> (first | (exfalso; omega) | (exfalso; contradiction) | skip)) | (refine Wl.gtr rfl rfl (fun _ => ?_) (fun _ => ?_) <;> (first | (exfalso; omega) | (exfalso; contradiction) | skip)) | (refine Wl.geq rfl rfl (fun _ => ?_) (fun _ => ?_) <;> (first | (exfalso; omega) | (exfalso; contradiction) | skip)) | (refine Wl.eql rfl rfl (fun _ => ?_) (fun _ => ?_) <;> (first | (exfalso; omega) | (exfalso; contradiction) | skip)) | (refine Wl.neq rfl rfl (fun _ => ?_) (fun _ => ?_) <;> (first | (exfalso; omega) | (exfalso; contradiction) | skip)) | (refine Wl.seql rfl rfl (fun _ => ?_) (fun _ => ?_) <;> (first | (exfalso; omega) | (exfalso; contradiction) | skip)) | (refine Wl.sneq rfl rfl (fun _ => ?_) (fun _ => ?_) <;> (first | (exfalso; omega) | (exfalso; contradiction) | skip))))
    (repeat' (refine Wl.load1 rfl (b1.cell rfl) ?_; (repeat' (first | refine Wl.moveE (by conv => { lhs; whnf }) ?_ | refine Wl.assignE (by conv => { lhs; whnf }) ?_ | refine Wl.nil ?_ | refine Wl.extract rfl rfl ?_ | refine Wl.guardY rfl rfl ?_ | refine Wl.guardN rfl rfl ?_ | refine Wl.guardU rfl ?_ | refine Wl.pickTE rfl (by conv => { lhs; whnf }) ?_ | refine Wl.pickFE rfl (by conv => { lhs; whnf }) ?_ | refine Wl.notB rfl ?_ | refine Wl.lenS rfl ?_ | refine Wl.lenStr rfl ?_ | refine Qseq.normal ?_ | refine Wc.seq ?_ | refine Wc.region ?_ | refine Wc.block ?_ | refine Wc.skip ?_ | refine Wc.exit ?_ | refine Wc.ret ?_ | refine Qseq.exit ?_ | refine Qseq.ret ?_ | refine Wc.scope ?_ | refine Wc.label ?_ | refine Qsc.normal ?_ | refine Qsc.exit ?_ | refine Qsc.ret ?_ | refine Qblk.normal ?_ | refine Qblk.ret ?_ | refine Qblk.hit ?_ | refine Qblk.miss rfl ?_ | refine Qloop.exit ?_ | refine Qloop.ret ?_ | refine Wc.condT rfl ?_ | refine Wc.condF rfl ?_ | refine Wl.nilP rfl ?_ | refine Wl.fieldAddr rfl rfl ?_ | refine Wl.nilF rfl ?_ | refine Wl.add rfl rfl (by omega) (by omega) ?_ | refine Wl.sub rfl rfl (by omega) (by omega) ?_ | refine Wl.mul rfl rfl (by omega) (by omega) ?_ | refine Wl.convI rfl ?_ | (refine Wl.lss rfl rfl (fun _ => ?_) (fun _ => ?_) <;> (first | (exfalso; omega) | (exfalso; contradiction) | skip)) | (refine Wl.leq rfl rfl (fun _ => ?_) (fun _ => ?_) <;> (first | (exfalso; omega) | (exfalso; contradiction) | skip)) | (refine Wl.gtr rfl rfl (fun _ => ?_) (fun _ => ?_) <;> (first | (exfalso; omega) | (exfalso; contradiction) | skip)) | (refine Wl.geq rfl rfl (fun _ => ?_) (fun _ => ?_) <;> (first | (exfalso; omega) | (exfalso; contradiction) | skip)) | (refine Wl.eql rfl rfl (fun _ => ?_) (fun _ => ?_) <;> (first | (exfalso; omega) | (exfalso; contradiction) | skip)) | (refine Wl.neq rfl rfl (fun _ => ?_) (fun _ => ?_) <;> (first | (exfalso; omega) | (exfalso; contradiction) | skip)) | (refine Wl.seql rfl rfl (fun _ => ?_) (fun _ => ?_) <;> (first | (exfalso; omega) | (exfalso; contradiction) | skip)) | (refine Wl.sneq rfl rfl (fun _ => ?_) (fun _ => ?_) <;> (first | (exfalso; omega) | (exfalso; contradiction) | skip))))))
    exact Qfn.ret1 rfl rfl ⟨_, rfl, rfl, n1⟩)
theorem may2 {w : World} {p : List UInt8} {d : Dv} : Calls Tryd.prog 69 #[dvV p d] w (Ret fun r w' => r = .bool (mayM d 2) ∧ New w w') := by
  rcases d with ⟨bo, on, sl, go⟩
  cases bo <;> cases on <;> cases sl <;> (
    refine calls_of_Wc Tryd.func69 rfl Tryd.ntmps69 rfl ?_
    (repeat' (first | refine Wl.moveE (by conv => { lhs; whnf }) ?_ | refine Wl.assignE (by conv => { lhs; whnf }) ?_ | refine Wl.nil ?_ | refine Wl.extract rfl rfl ?_ | refine Wl.guardY rfl rfl ?_ | refine Wl.guardN rfl rfl ?_ | refine Wl.guardU rfl ?_ | refine Wl.pickTE rfl (by conv => { lhs; whnf }) ?_ | refine Wl.pickFE rfl (by conv => { lhs; whnf }) ?_ | refine Wl.notB rfl ?_ | refine Wl.lenS rfl ?_ | refine Wl.lenStr rfl ?_ | refine Qseq.normal ?_ | refine Wc.seq ?_ | refine Wc.region ?_ | refine Wc.block ?_ | refine Wc.skip ?_ | refine Wc.exit ?_ | refine Wc.ret ?_ | refine Qseq.exit ?_ | refine Qseq.ret ?_ | refine Wc.scope ?_ | refine Wc.label ?_ | refine Qsc.normal ?_ | refine Qsc.exit ?_ | refine Qsc.ret ?_ | refine Qblk.normal ?_ | refine Qblk.ret ?_ | refine Qblk.hit ?_ | refine Qblk.miss rfl ?_ | refine Qloop.exit ?_ | refine Qloop.ret ?_ | refine Wc.condT rfl ?_ | refine Wc.condF rfl ?_ | refine Wl.nilP rfl ?_ | refine Wl.fieldAddr rfl rfl ?_ | refine Wl.nilF rfl ?_ | refine Wl.add rfl rfl (by omega) (by omega) ?_ | refine Wl.sub rfl rfl (by omega) (by omega) ?_ | refine Wl.mul rfl rfl (by omega) (by omega) ?_ | refine Wl.convI rfl ?_ | (refine Wl.lss rfl rfl (fun _ => ?_) (fun _ => ?_) <;> (first | (exfalso; omega) | (exfalso; contradiction) | skip)) | (refine Wl.leq rfl rfl (fun _ => ?_) (fun _ => ?_) <;> (first | (exfalso; omega) | (exfalso; contradiction) | skip)) | (refine Wl.gtr rfl rfl (fun _ => ?_) (fun _ => ?_) <;> (first | (exfalso; omega) | (exfalso; contradiction) | skip)) | (refine Wl.geq rfl rfl (fun _ => ?_) (fun _ => ?_) <;> (first | (exfalso; omega) | (exfalso; contradiction) | skip)) | (refine Wl.eql rfl rfl (fun _ => ?_) (fun _ => ?_) <;> (first | (exfalso; omega) | (exfalso; contradiction) | skip)) | (refine Wl.neq rfl rfl (fun _ => ?_) (fun _ => ?_) <;> (first | (exfalso; omega) | (exfalso; contradiction) | skip)) | (refine Wl.seql rfl rfl (fun _ => ?_) (fun _ => ?_) <;> (first | (exfalso; omega) | (exfalso; contradiction) | skip)) | (refine Wl.sneq rfl rfl (fun _ => ?_) (fun _ => ?_) <;> (first | (exfalso; omega) | (exfalso; contradiction) | skip))))
    refine Wl.box rfl fun w1 b1 n1 s1 => ?_
    replace b1 : Bk w1 w.heap.size tDev (dvC p _) := b1
    (repeat' (first | refine Wl.moveE (by conv => { lhs; whnf }) ?_ | refine Wl.assignE (by conv => { lhs; whnf }) ?_ | refine Wl.nil ?_ | refine Wl.extract rfl rfl ?_ | refine Wl.guardY rfl rfl ?_ | refine Wl.guardN rfl rfl ?_ | refine Wl.guardU rfl ?_ | refine Wl.pickTE rfl (by conv => { lhs; whnf }) ?_ | refine Wl.pickFE rfl (by conv => { lhs; whnf }) ?_ | refine Wl.notB rfl ?_ | refine Wl.lenS rfl ?_ | refine Wl.lenStr rfl ?_ | refine Qseq.normal ?_ | refine Wc.seq ?_ | refine Wc.region ?_ | refine Wc.block ?_ | refine Wc.skip ?_ | refine Wc.exit ?_ | refine Wc.ret ?_ | refine Qseq.exit ?_ | refine Qseq.ret ?_ | refine Wc.scope ?_ | refine Wc.label ?_ | refine Qsc.normal ?_ | refine Qsc.exit ?_ | refine Qsc.ret ?_ | refine Qblk.normal ?_ | refine Qblk.ret ?_ | refine Qblk.hit ?_ | refine Qblk.miss rfl ?_ | refine Qloop.exit ?_ | refine Qloop.ret ?_ | refine Wc.condT rfl ?_ | refine Wc.condF rfl ?_ | refine Wl.nilP rfl ?_ | refine Wl.fieldAddr rfl rfl ?_ | refine Wl.nilF rfl ?_ | refine Wl.add rfl rfl (by omega) (by omega) ?_ | refine Wl.sub rfl rfl (by omega) (by omega) ?_ | refine Wl.mul rfl rfl (by omega) (by omega) ?_ | refine Wl.convI rfl ?_ | (refine Wl.lss rfl rfl (fun _ => ?_) (fun _ => ?_) <;> (first | (exfalso; omega) | (exfalso; contradiction) | skip)) | (refine Wl.leq rfl rfl (fun _ => ?_) (fun _ => ?_) <;> (first | (exfalso; omega) | (exfalso; contradiction) | skip)) | (refine Wl.gtr rfl rfl (fun _ => ?_) (fun _ => ?_) <;> (first | (exfalso; omega) | (exfalso; contradiction) | skip)) | (refine Wl.geq rfl rfl (fun _ => ?_) (fun _ => ?_) <;> (first | (exfalso; omega) | (exfalso; contradiction) | skip)) | (refine Wl.eql rfl rfl (fun _ => ?_) (fun _ => ?_) <;> (first | (exfalso; omega) | (exfalso; contradiction) | skip)) | (refine Wl.neq rfl rfl (fun _ => ?_) (fun _ => ?_) <;> (first | (exfalso; omega) | (exfalso; contradiction) | skip)) | (refine Wl.seql rfl rfl (fun _ => ?_) (fun _ => ?_) <;> (first | (exfalso; omega) | (exfalso; contradiction) | skip)) | (refine Wl.sneq rfl rfl (fun _ => ?_) (fun _ => ?_) <;> (first | (exfalso; omega) | (exfalso; contradiction) | skip))))
    (repeat' (refine Wl.load1 rfl (b1.cell rfl) ?_; (repeat' (first | refine Wl.moveE (by conv => { lhs; whnf }) ?_ | refine Wl.assignE (by conv => { lhs; whnf }) ?_ | refine Wl.nil ?_ | refine Wl.extract rfl rfl ?_ | refine Wl.guardY rfl rfl ?_ | refine Wl.guardN rfl rfl ?_ | refine Wl.guardU rfl ?_ | refine Wl.pickTE rfl (by conv => { lhs; whnf }) ?_ | refine Wl.pickFE rfl (by conv => { lhs; whnf }) ?_ | refine Wl.notB rfl ?_ | refine Wl.lenS rfl ?_ | refine Wl.lenStr rfl ?_ | refine Qseq.normal ?_ | refine Wc.seq ?_ | refine Wc.region ?_ | refine Wc.block ?_ | refine Wc.skip ?_ | refine Wc.exit ?_ | refine Wc.ret ?_ | refine Qseq.exit ?_ | refine Qseq.ret ?_ | refine Wc.scope ?_ | refine Wc.label ?_ | refine Qsc.normal ?_ | refine Qsc.exit ?_ | refine Qsc.ret ?_ | refine Qblk.normal ?_ | refine Qblk.ret ?_ | refine Qblk.hit ?_ | refine Qblk.miss rfl ?_ | refine Qloop.exit ?_ | refine Qloop.ret ?_ | refine Wc.condT rfl ?_ | refine Wc.condF rfl ?_ | refine Wl.nilP rfl ?_ | refine Wl.fieldAddr rfl rfl ?_ | refine Wl.nilF rfl ?_ | refine Wl.add rfl rfl (by omega) (by omega) ?_ | refine Wl.sub rfl rfl (by omega) (by omega) ?_ | refine Wl.mul rfl rfl (by omega) (by omega) ?_ | refine Wl.convI rfl ?_ | (refine Wl.lss rfl rfl (fun _ => ?_) (fun _ => ?_) <;> (first | (exfalso; omega) | (exfalso; contradiction) | skip)) | (refine Wl.leq rfl rfl (fun _ => ?_) (fun _ => ?_) <;> (first | (exfalso; omega) | (exfalso; contradiction) | skip)) | (refine Wl.gtr rfl rfl (fun _ => ?_) (fun _ => ?_) <;> (first | (exfalso; omega) | (exfalso; contradiction) | skip)) | (refine Wl.geq rfl rfl (fun _ => ?_) (fun _ => ?_) <;> (first | (exfalso; omega) | (exfalso; contradiction) | skip)) | (refine Wl.eql rfl rfl (fun _ => ?_) (fun _ => ?_) <;> (first | (exfalso; omega) | (exfalso; contradiction) | skip)) | (refine Wl.neq rfl rfl (fun _ => ?_) (fun _ => ?_) <;> (first | (exfalso; omega) | (exfalso; contradiction) | skip)) | (refine Wl.seql rfl rfl (fun _ => ?_) (fun _ => ?_) <;> (first | (exfalso; omega) | (exfalso; contradiction) | skip)) | (refine Wl.sneq rfl rfl (fun _ => ?_) (fun _ => ?_) <;> (first | (exfalso; omega) | (exfalso; contradiction) | skip))))))
    exact Qfn.ret1 rfl rfl ⟨_, rfl, rfl, n1⟩)
theorem may3 {w : World} {p : List UInt8} {d : Dv} : Calls Tryd.prog 71 #[dvV p d] w (Ret fun r w' => r = .bool (mayM d 3) ∧ New w w') := by
  rcases d with ⟨bo, on, sl, go⟩
  cases on <;> cases go <;> (
    refine calls_of_Wc Tryd.func71 rfl Tryd.ntmps71 rfl ?_
    (repeat' (first | refine Wl.moveE (by conv => { lhs; whnf }) ?_ | refine Wl.assignE (by conv => { lhs; whnf }) ?_ | refine Wl.nil ?_ | refine Wl.extract rfl rfl ?_ | refine Wl.guardY rfl rfl ?_ | refine Wl.guardN rfl rfl ?_ | refine Wl.guardU rfl ?_ | refine Wl.pickTE rfl (by conv => { lhs; whnf }) ?_ | refine Wl.pickFE rfl (by conv => { lhs; whnf }) ?_ | refine Wl.notB rfl ?_ | refine Wl.lenS rfl ?_ | refine Wl.lenStr rfl ?_ | refine Qseq.normal ?_ | refine Wc.seq ?_ | refine Wc.region ?_ | refine Wc.block ?_ | refine Wc.skip ?_ | refine Wc.exit ?_ | refine Wc.ret ?_ | refine Qseq.exit ?_ | refine Qseq.ret ?_ | refine Wc.scope ?_ | refine Wc.label ?_ | refine Qsc.normal ?_ | refine Qsc.exit ?_ | refine Qsc.ret ?_ | refine Qblk.normal ?_ | refine Qblk.ret ?_ | refine Qblk.hit ?_ | refine Qblk.miss rfl ?_ | refine Qloop.exit ?_ | refine Qloop.ret ?_ | refine Wc.condT rfl ?_ | refine Wc.condF rfl ?_ | refine Wl.nilP rfl ?_ | refine Wl.fieldAddr rfl rfl ?_ | refine Wl.nilF rfl ?_ | refine Wl.add rfl rfl (by omega) (by omega) ?_ | refine Wl.sub rfl rfl (by omega) (by omega) ?_ | refine Wl.mul rfl rfl (by omega) (by omega) ?_ | refine Wl.convI rfl ?_ | (refine Wl.lss rfl rfl (fun _ => ?_) (fun _ => ?_) <;> (first | (exfalso; omega) | (exfalso; contradiction) | skip)) | (refine Wl.leq rfl rfl (fun _ => ?_) (fun _ => ?_) <;> (first | (exfalso; omega) | (exfalso; contradiction) | skip)) | (refine Wl.gtr rfl rfl (fun _ => ?_) (fun _ => ?_) <;> (first | (exfalso; omega) | (exfalso; contradiction) | skip)) | (refine Wl.geq rfl rfl (fun _ => ?_) (fun _ => ?_) <;> (first | (exfalso; omega) | (exfalso; contradiction) | skip)) | (refine Wl.eql rfl rfl (fun _ => ?_) (fun _ => ?_) <;> (first | (exfalso; omega) | (exfalso; contradiction) | skip)) | (refine Wl.neq rfl rfl (fun _ => ?_) (fun _ => ?_) <;> (first | (exfalso; omega) | (exfalso; contradiction) | skip)) | (refine Wl.seql rfl rfl (fun _ => ?_) (fun _ => ?_) <;> (first | (exfalso; omega) | (exfalso; contradiction) | skip)) | (refine Wl.sneq rfl rfl (fun _ => ?_) (fun _ => ?_) <;> (first | (exfalso; omega) | (exfalso; contradiction) | skip))))
    refine Wl.box rfl fun w1 b1 n1 s1 => ?_
    replace b1 : Bk w1 w.heap.size tDev (dvC p _) := b1
    (repeat' (first | refine Wl.moveE (by conv => { lhs; whnf }) ?_ | refine Wl.assignE (by conv => { lhs; whnf }) ?_ | refine Wl.nil ?_ | refine Wl.extract rfl rfl ?_ | refine Wl.guardY rfl rfl ?_ | refine Wl.guardN rfl rfl ?_ | refine Wl.guardU rfl ?_ | refine Wl.pickTE rfl (by conv => { lhs; whnf }) ?_ | refine Wl.pickFE rfl (by conv => { lhs; whnf }) ?_ | refine Wl.notB rfl ?_ | refine Wl.lenS rfl ?_ | refine Wl.lenStr rfl ?_ | refine Qseq.normal ?_ | refine Wc.seq ?_ | refine Wc.region ?_ | refine Wc.block ?_ | refine Wc.skip ?_ | refine Wc.exit ?_ | refine Wc.ret ?_ | refine Qseq.exit ?_ | refine Qseq.ret ?_ | refine Wc.scope ?_ | refine Wc.label ?_ | refine Qsc.normal ?_ | refine Qsc.exit ?_ | refine Qsc.ret ?_ | refine Qblk.normal ?_ | refine Qblk.ret ?_ | refine Qblk.hit ?_ | refine Qblk.miss rfl ?_ | refine Qloop.exit ?_ | refine Qloop.ret ?_ | refine Wc.condT rfl ?_ | refine Wc.condF rfl ?_ | refine Wl.nilP rfl ?_ | refine Wl.fieldAddr rfl rfl ?_ | refine Wl.nilF rfl ?_ | refine Wl.add rfl rfl (by omega) (by omega) ?_ | refine Wl.sub rfl rfl (by omega) (by omega) ?_ | refine Wl.mul rfl rfl (by omega) (by omega) ?_ | refine Wl.convI rfl ?_ | (refine Wl.lss rfl rfl (fun _ => ?_) (fun _ => ?_) <;> (first | (exfalso; omega) | (exfalso; contradiction) | skip)) | (refine Wl.leq rfl rfl (fun _ => ?_) (fun _ => ?_) <;> (first | (exfalso; omega) | (exfalso; contradiction) | skip)) | (refine Wl.gtr rfl rfl (fun _ => ?_) (fun _ => ?_) <;> (first | (exfalso; omega) | (exfalso; contradiction) | skip)) | (refine Wl.geq rfl rfl (fun _ => ?_) (fun _ => ?_) <;> (first | (exfalso; omega) | (exfalso; contradiction) | skip)) | (refine Wl.eql rfl rfl (fun _ => ?_) (fun _ => ?_) <;> (first | (exfalso; omega) | (exfalso; contradiction) | skip)) | (refine Wl.neq rfl rfl (fun _ => ?_) (fun _ => ?_) <;> (first | (exfalso; omega) | (exfalso; contradiction) | skip)) | (refine Wl.seql rfl rfl (fun _ => ?_) (fun _ => ?_) <;> (first | (exfalso; omega) | (exfalso; contradiction) | skip)) | (refine Wl.sneq rfl rfl (fun _ => ?_) (fun _ => ?_) <;> (first | (exfalso; omega) | (exfalso; contradiction) | skip))))
    (repeat' (refine Wl.load1 rfl (b1.cell rfl) ?_; (repeat' (first | refine Wl.moveE (by conv => { lhs; whnf }) ?_ | refine Wl.assignE (by conv => { lhs; whnf }) ?_ | refine Wl.nil ?_ | refine Wl.extract rfl rfl ?_ | refine Wl.guardY rfl rfl ?_ | refine Wl.guardN rfl rfl ?_ | refine Wl.guardU rfl ?_ | refine Wl.pickTE rfl (by conv => { lhs; whnf }) ?_ | refine Wl.pickFE rfl (by conv => { lhs; whnf }) ?_ | refine Wl.notB rfl ?_ | refine Wl.lenS rfl ?_ | refine Wl.lenStr rfl ?_ | refine Qseq.normal ?_ | refine Wc.seq ?_ | refine Wc.region ?_ | refine Wc.block ?_ | refine Wc.skip ?_ | refine Wc.exit ?_ | refine Wc.ret ?_ | refine Qseq.exit ?_ | refine Qseq.ret ?_ | refine Wc.scope ?_ | refine Wc.label ?_ | refine Qsc.normal ?_ | refine Qsc.exit ?_ | refine Qsc.ret ?_ | refine Qblk.normal ?_ | refine Qblk.ret ?_ | refine Qblk.hit ?_ | refine Qblk.miss rfl ?_ | refine Qloop.exit ?_ | refine Qloop.ret ?_ | refine Wc.condT rfl ?_ | refine Wc.condF rfl ?_ | refine Wl.nilP rfl ?_ | refine Wl.fieldAddr rfl rfl ?_ | refine Wl.nilF rfl ?_ | refine Wl.add rfl rfl (by omega) (by omega) ?_ | refine Wl.sub rfl rfl (by omega) (by omega) ?_ | refine Wl.mul rfl rfl (by omega) (by omega) ?_ | refine Wl.convI rfl ?_ | (refine Wl.lss rfl rfl (fun _ => ?_) (fun _ => ?_) <;> (first | (exfalso; omega) | (exfalso; contradiction) | skip)) | (refine Wl.leq rfl rfl (fun _ => ?_) (fun _ => ?_) <;> (first | (exfalso; omega) | (exfalso; contradiction) | skip)) | (refine Wl.gtr rfl rfl (fun _ => ?_) (fun _ => ?_) <;> (first | (exfalso; omega) | (exfalso; contradiction) | skip)) | (refine Wl.geq rfl rfl (fun _ => ?_) (fun _ => ?_) <;> (first | (exfalso; omega) | (exfalso; contradiction) | skip)) | (refine Wl.eql rfl rfl (fun _ => ?_) (fun _ => ?_) <;> (first | (exfalso; omega) | (exfalso; contradiction) | skip)) | (refine Wl.neq rfl rfl (fun _ => ?_) (fun _ => ?_) <;> (first | (exfalso; omega) | (exfalso; contradiction) | skip)) | (refine Wl.seql rfl rfl (fun _ => ?_) (fun _ => ?_) <;> (first | (exfalso; omega) | (exfalso; contradiction) | skip)) | (refine Wl.sneq rfl rfl (fun _ => ?_) (fun _ => ?_) <;> (first | (exfalso; omega) | (exfalso; contradiction) | skip))))))
    exact Qfn.ret1 rfl rfl ⟨_, rfl, rfl, n1⟩)
theorem may4 {w : World} {p : List UInt8} {d : Dv} : Calls Tryd.prog 73 #[dvV p d] w (Ret fun r w' => r = .bool (mayM d 4) ∧ New w w') := by
  rcases d with ⟨bo, on, sl, go⟩
  (
    refine calls_of_Wc Tryd.func73 rfl Tryd.ntmps73 rfl ?_
    (repeat' (first | refine Wl.moveE (by conv => { lhs; whnf }) ?_ | refine Wl.assignE (by conv => { lhs; whnf }) ?_ | refine Wl.nil ?_ | refine Wl.extract rfl rfl ?_ | refine Wl.guardY rfl rfl ?_ | refine Wl.guardN rfl rfl ?_ | refine Wl.guardU rfl ?_ | refine Wl.pickTE rfl (by conv => { lhs; whnf }) ?_ | refine Wl.pickFE rfl (by conv => { lhs; whnf }) ?_ | refine Wl.notB rfl ?_ | refine Wl.lenS rfl ?_ | refine Wl.lenStr rfl ?_ | refine Qseq.normal ?_ | refine Wc.seq ?_ | refine Wc.region ?_ | refine Wc.block ?_ | refine Wc.skip ?_ | refine Wc.exit ?_ | refine Wc.ret ?_ | refine Qseq.exit ?_ | refine Qseq.ret ?_ | refine Wc.scope ?_ | refine Wc.label ?_ | refine Qsc.normal ?_ | refine Qsc.exit ?_ | refine Qsc.ret ?_ | refine Qblk.normal ?_ | refine Qblk.ret ?_ | refine Qblk.hit ?_ | refine Qblk.miss rfl ?_ | refine Qloop.exit ?_ | refine Qloop.ret ?_ | refine Wc.condT rfl ?_ | refine Wc.condF rfl ?_ | refine Wl.nilP rfl ?_ | refine Wl.fieldAddr rfl rfl ?_ | refine Wl.nilF rfl ?_ | refine Wl.add rfl rfl (by omega) (by omega) ?_ | refine Wl.sub rfl rfl (by omega) (by omega) ?_ | refine Wl.mul rfl rfl (by omega) (by omega) ?_ | refine Wl.convI rfl ?_ | (refine Wl.lss rfl rfl (fun _ => ?_) (fun _ => ?_) <;> (first | (exfalso; omega) | (exfalso; contradiction) | skip)) | (refine Wl.leq rfl rfl (fun _ => ?_) (fun _ => ?_) <;> (first | (exfalso; omega) | (exfalso; contradiction) | skip)) | (refine Wl.gtr rfl rfl (fun _ => ?_) (fun _ => ?_) <;> (first | (exfalso; omega) | (exfalso; contradiction) | skip)) | (refine Wl.geq rfl rfl (fun _ => ?_) (fun _ => ?_) <;> (first | (exfalso; omega) | (exfalso; contradiction) | skip)) | (refine Wl.eql rfl rfl (fun _ => ?_) (fun _ => ?_) <;> (first | (exfalso; omega) | (exfalso; contradiction) | skip)) | (refine Wl.neq rfl rfl (fun _ => ?_) (fun _ => ?_) <;> (first | (exfalso; omega) | (exfalso; contradiction) | skip)) | (refine Wl.seql rfl rfl (fun _ => ?_) (fun _ => ?_) <;> (first | (exfalso; omega) | (exfalso; contradiction) | skip)) | (refine Wl.sneq rfl rfl (fun _ => ?_) (fun _ => ?_) <;> (first | (exfalso; omega) | (exfalso; contradiction) | skip))))
    refine Wl.box rfl fun w1 b1 n1 s1 => ?_
    replace b1 : Bk w1 w.heap.size tDev (dvC p _) := b1
    (repeat' (first | refine Wl.moveE (by conv => { lhs; whnf }) ?_ | refine Wl.assignE (by conv => { lhs; whnf }) ?_ | refine Wl.nil ?_ | refine Wl.extract rfl rfl ?_ | refine Wl.guardY rfl rfl ?_ | refine Wl.guardN rfl rfl ?_ | refine Wl.guardU rfl ?_ | refine Wl.pickTE rfl (by conv => { lhs; whnf }) ?_ | refine Wl.pickFE rfl (by conv => { lhs; whnf }) ?_ | refine Wl.notB rfl ?_ | refine Wl.lenS rfl ?_ | refine Wl.lenStr rfl ?_ | refine Qseq.normal ?_ | refine Wc.seq ?_ | refine Wc.region ?_ | refine Wc.block ?_ | refine Wc.skip ?_ | refine Wc.exit ?_ | refine Wc.ret ?_ | refine Qseq.exit ?_ | refine Qseq.ret ?_ | refine Wc.scope ?_ | refine Wc.label ?_ | refine Qsc.normal ?_ | refine Qsc.exit ?_ | refine Qsc.ret ?_ | refine Qblk.normal ?_ | refine Qblk.ret ?_ | refine Qblk.hit ?_ | refine Qblk.miss rfl ?_ | refine Qloop.exit ?_ | refine Qloop.ret ?_ | refine Wc.condT rfl ?_ | refine Wc.condF rfl ?_ | refine Wl.nilP rfl ?_ | refine Wl.fieldAddr rfl rfl ?_ | refine Wl.nilF rfl ?_ | refine Wl.add rfl rfl (by omega) (by omega) ?_ | refine Wl.sub rfl rfl (by omega) (by omega) ?_ | refine Wl.mul rfl rfl (by omega) (by omega) ?_ | refine Wl.convI rfl ?_ | (refine Wl.lss rfl rfl (fun _ => ?_) (fun _ => ?_) <;> (first | (exfalso; omega) | (exfalso; contradiction) | skip)) | (refine Wl.leq rfl rfl (fun _ => ?_) (fun _ => ?_) <;> (first | (exfalso; omega) | (exfalso; contradiction) | skip)) | (refine Wl.gtr rfl rfl (fun _ => ?_) (fun _ => ?_) <;> (first | (exfalso; omega) | (exfalso; contradiction) | skip)) | (refine Wl.geq rfl rfl (fun _ => ?_) (fun _ => ?_) <;> (first | (exfalso; omega) | (exfalso; contradiction) | skip)) | (refine Wl.eql rfl rfl (fun _ => ?_) (fun _ => ?_) <;> (first | (exfalso; omega) | (exfalso; contradiction) | skip)) | (refine Wl.neq rfl rfl (fun _ => ?_) (fun _ => ?_) <;> (first | (exfalso; omega) | (exfalso; contradiction) | skip)) | (refine Wl.seql rfl rfl (fun _ => ?_) (fun _ => ?_) <;> (first | (exfalso; omega) | (exfalso; contradiction) | skip)) | (refine Wl.sneq rfl rfl (fun _ => ?_) (fun _ => ?_) <;> (first | (exfalso; omega) | (exfalso; contradiction) | skip))))
    (repeat' (refine Wl.load1 rfl (b1.cell rfl) ?_; (repeat' (first | refine Wl.moveE (by conv => { lhs; whnf }) ?_ | refine Wl.assignE (by conv => { lhs; whnf }) ?_ | refine Wl.nil ?_ | refine Wl.extract rfl rfl ?_ | refine Wl.guardY rfl rfl ?_ | refine Wl.guardN rfl rfl ?_ | refine Wl.guardU rfl ?_ | refine Wl.pickTE rfl (by conv => { lhs; whnf }) ?_ | refine Wl.pickFE rfl (by conv => { lhs; whnf }) ?_ | refine Wl.notB rfl ?_ | refine Wl.lenS rfl ?_ | refine Wl.lenStr rfl ?_ | refine Qseq.normal ?_ | refine Wc.seq ?_ | refine Wc.region ?_ | refine Wc.block ?_ | refine Wc.skip ?_ | refine Wc.exit ?_ | refine Wc.ret ?_ | refine Qseq.exit ?_ | refine Qseq.ret ?_ | refine Wc.scope ?_ | refine Wc.label ?_ | refine Qsc.normal ?_ | refine Qsc.exit ?_ | refine Qsc.ret ?_ | refine Qblk.normal ?_ | refine Qblk.ret ?_ | refine Qblk.hit ?_ | refine Qblk.miss rfl ?_ | refine Qloop.exit ?_ | refine Qloop.ret ?_ | refine Wc.condT rfl ?_ | refine Wc.condF rfl ?_ | refine Wl.nilP rfl ?_ | refine Wl.fieldAddr rfl rfl ?_ | refine Wl.nilF rfl ?_ | refine Wl.add rfl rfl (by omega) (by omega) ?_ | refine Wl.sub rfl rfl (by omega) (by omega) ?_ | refine Wl.mul rfl rfl (by omega) (by omega) ?_ | refine Wl.convI rfl ?_ | (refine Wl.lss rfl rfl (fun _ => ?_) (fun _ => ?_) <;> (first | (exfalso; omega) | (exfalso; contradiction) | skip)) | (refine Wl.leq rfl rfl (fun _ => ?_) (fun _ => ?_) <;> (first | (exfalso; omega) | (exfalso; contradiction) | skip)) | (refine Wl.gtr rfl rfl (fun _ => ?_) (fun _ => ?_) <;> (first | (exfalso; omega) | (exfalso; contradiction) | skip)) | (refine Wl.geq rfl rfl (fun _ => ?_) (fun _ => ?_) <;> (first | (exfalso; omega) | (exfalso; contradiction) | skip)) | (refine Wl.eql rfl rfl (fun _ => ?_) (fun _ => ?_) <;> (first | (exfalso; omega) | (exfalso; contradiction) | skip)) | (refine Wl.neq rfl rfl (fun _ => ?_) (fun _ => ?_) <;> (first | (exfalso; omega) | (exfalso; contradiction) | skip)) | (refine Wl.seql rfl rfl (fun _ => ?_) (fun _ => ?_) <;> (first | (exfalso; omega) | (exfalso; contradiction) | skip)) | (refine Wl.sneq rfl rfl (fun _ => ?_) (fun _ => ?_) <;> (first | (exfalso; omega) | (exfalso; contradiction) | skip))))))
    exact Qfn.ret1 rfl rfl ⟨_, rfl, rfl, n1⟩)
theorem may5 {w : World} {p : List UInt8} {d : Dv} : Calls Tryd.prog 75 #[dvV p d] w (Ret fun r w' => r = .bool (mayM d 5) ∧ New w w') := by
  rcases d with ⟨bo, on, sl, go⟩
  cases bo <;> cases sl <;> (
    refine calls_of_Wc Tryd.func75 rfl Tryd.ntmps75 rfl ?_
    (repeat' (first | refine Wl.moveE (by conv => { lhs; whnf }) ?_ | refine Wl.assignE (by conv => { lhs; whnf }) ?_ | refine Wl.nil ?_ | refine Wl.extract rfl rfl ?_ | refine Wl.guardY rfl rfl ?_ | refine Wl.guardN rfl rfl ?_ | refine Wl.guardU rfl ?_ | refine Wl.pickTE rfl (by conv => { lhs; whnf }) ?_ | refine Wl.pickFE rfl (by conv => { lhs; whnf }) ?_ | refine Wl.notB rfl ?_ | refine Wl.lenS rfl ?_ | refine Wl.lenStr rfl ?_ | refine Qseq.normal ?_ | refine Wc.seq ?_ | refine Wc.region ?_ | refine Wc.block ?_ | refine Wc.skip ?_ | refine Wc.exit ?_ | refine Wc.ret ?_ | refine Qseq.exit ?_ | refine Qseq.ret ?_ | refine Wc.scope ?_ | refine Wc.label ?_ | refine Qsc.normal ?_ | refine Qsc.exit ?_ | refine Qsc.ret ?_ | refine Qblk.normal ?_ | refine Qblk.ret ?_ | refine Qblk.hit ?_ | refine Qblk.miss rfl ?_ | refine Qloop.exit ?_ | refine Qloop.ret ?_ | refine Wc.condT rfl ?_ | refine Wc.condF rfl ?_ | refine Wl.nilP rfl ?_ | refine Wl.fieldAddr rfl rfl ?_ | refine Wl.nilF rfl ?_ | refine Wl.add rfl rfl (by omega) (by omega) ?_ | refine Wl.sub rfl rfl (by omega) (by omega) ?_ | refine Wl.mul rfl rfl (by omega) (by omega) ?_ | refine Wl.convI rfl ?_ | (refine Wl.lss rfl rfl (fun _ => ?_) (fun _ => ?_) <;> (first | (exfalso; omega) | (exfalso; contradiction) | skip)) | (refine Wl.leq rfl rfl (fun _ => ?_) (fun _ => ?_) <;> (first | (exfalso; omega) | (exfalso; contradiction) | skip)) | (refine Wl.gtr rfl rfl (fun _ => ?_) (fun _ => ?_) <;> (first | (exfalso; omega) | (exfalso; contradiction) | skip)) | (refine Wl.geq rfl rfl (fun _ => ?_) (fun _ => ?_) <;> (first | (exfalso; omega) | (exfalso; contradiction) | skip)) | (refine Wl.eql rfl rfl (fun _ => ?_) (fun _ => ?_) <;> (first | (exfalso; omega) | (exfalso; contradiction) | skip)) | (refine Wl.neq rfl rfl (fun _ => ?_) (fun _ => ?_) <;> (first | (exfalso; omega) | (exfalso; contradiction) | skip)) | (refine Wl.seql rfl rfl (fun _ => ?_) (fun _ => ?_) <;> (first | (exfalso; omega) | (exfalso; contradiction) | skip)) | (refine Wl.sneq rfl rfl (fun _ => ?_) (fun _ => ?_) <;> (first | (exfalso; omega) | (exfalso; contradiction) | skip))))
    refine Wl.box rfl fun w1 b1 n1 s1 => ?_
    replace b1 : Bk w1 w.heap.size tDev (dvC p _) := b1
    (repeat' (first | refine Wl.moveE (by conv => { lhs; whnf }) ?_ | refine Wl.assignE (by conv => { lhs; whnf }) ?_ | refine Wl.nil ?_ | refine Wl.extract rfl rfl ?_ | refine Wl.guardY rfl rfl ?_ | refine Wl.guardN rfl rfl ?_ | refine Wl.guardU rfl ?_ | refine Wl.pickTE rfl (by conv => { lhs; whnf }) ?_ | refine Wl.pickFE rfl (by conv => { lhs; whnf }) ?_ | refine Wl.notB rfl ?_ | refine Wl.lenS rfl ?_ | refine Wl.lenStr rfl ?_ | refine Qseq.normal ?_ | refine Wc.seq ?_ | refine Wc.region ?_ | refine Wc.block ?_ | refine Wc.skip ?_ | refine Wc.exit ?_ | refine Wc.ret ?_ | refine Qseq.exit ?_ | refine Qseq.ret ?_ | refine Wc.scope ?_ | refine Wc.label ?_ | refine Qsc.normal ?_ | refine Qsc.exit ?_ | refine Qsc.ret ?_ | refine Qblk.normal ?_ | refine Qblk.ret ?_ | refine Qblk.hit ?_ | refine Qblk.miss rfl ?_ | refine Qloop.exit ?_ | refine Qloop.ret ?_ | refine Wc.condT rfl ?_ | refine Wc.condF rfl ?_ | refine Wl.nilP rfl ?_ | refine Wl.fieldAddr rfl rfl ?_ | refine Wl.nilF rfl ?_ | refine Wl.add rfl rfl (by omega) (by omega) ?_ | refine Wl.sub rfl rfl (by omega) (by omega) ?_ | refine Wl.mul rfl rfl (by omega) (by omega) ?_ | refine Wl.convI rfl ?_ | (refine Wl.lss rfl rfl (fun _ => ?_) (fun _ => ?_) <;> (first | (exfalso; omega) | (exfalso; contradiction) | skip)) | (refine Wl.leq rfl rfl (fun _ => ?_) (fun _ => ?_) <;> (first | (exfalso; omega) | (exfalso; contradiction) | skip)) | (refine Wl.gtr rfl rfl (fun _ => ?_) (fun _ => ?_) <;> (first | (exfalso; omega) | (exfalso; contradiction) | skip)) | (refine Wl.geq rfl rfl (fun _ => ?_) (fun _ => ?_) <;> (first | (exfalso; omega) | (exfalso; contradiction) | skip)) | (refine Wl.eql rfl rfl (fun _ => ?_) (fun _ => ?_) <;> (first | (exfalso; omega) | (exfalso; contradiction) | skip)) | (refine Wl.neq rfl rfl (fun _ => ?_) (fun _ => ?_) <;> (first | (exfalso; omega) | (exfalso; contradiction) | skip)) | (refine Wl.seql rfl rfl (fun _ => ?_) (fun _ => ?_) <;> (first | (exfalso; omega) | (exfalso; contradiction) | skip)) | (refine Wl.sneq rfl rfl (fun _ => ?_) (fun _ => ?_) <;> (first | (exfalso; omega) | (exfalso; contradiction) | skip))))
    (repeat' (refine Wl.load1 rfl (b1.cell rfl) ?_; (repeat' (first | refine Wl.moveE (by conv => { lhs; whnf }) ?_ | refine Wl.assignE (by conv => { lhs; whnf }) ?_ | refine Wl.nil ?_ | refine Wl.extract rfl rfl ?_ | refine Wl.guardY rfl rfl ?_ | refine Wl.guardN rfl rfl ?_ | refine Wl.guardU rfl ?_ | refine Wl.pickTE rfl (by conv => { lhs; whnf }) ?_ | refine Wl.pickFE rfl (by conv => { lhs; whnf }) ?_ | refine Wl.notB rfl ?_ | refine Wl.lenS rfl ?_ | refine Wl.lenStr rfl ?_ | refine Qseq.normal ?_ | refine Wc.seq ?_ | refine Wc.region ?_ | refine Wc.block ?_ | refine Wc.skip ?_ | refine Wc.exit ?_ | refine Wc.ret ?_ | refine Qseq.exit ?_ | refine Qseq.ret ?_ | refine Wc.scope ?_ | refine Wc.label ?_ | refine Qsc.normal ?_ | refine Qsc.exit ?_ | refine Qsc.ret ?_ | refine Qblk.normal ?_ | refine Qblk.ret ?_ | refine Qblk.hit ?_ | refine Qblk.miss rfl ?_ | refine Qloop.exit ?_ | refine Qloop.ret ?_ | refine Wc.condT rfl ?_ | refine Wc.condF rfl ?_ | refine Wl.nilP rfl ?_ | refine Wl.fieldAddr rfl rfl ?_ | refine Wl.nilF rfl ?_ | refine Wl.add rfl rfl (by omega) (by omega) ?_ | refine Wl.sub rfl rfl (by omega) (by omega) ?_ | refine Wl.mul rfl rfl (by omega) (by omega) ?_ | refine Wl.convI rfl ?_ | (refine Wl.lss rfl rfl (fun _ => ?_) (fun _ => ?_) <;> (first | (exfalso; omega) | (exfalso; contradiction) | skip)) | (refine Wl.leq rfl rfl (fun _ => ?_) (fun _ => ?_) <;> (first | (exfalso; omega) | (exfalso; contradiction) | skip)) | (refine Wl.gtr rfl rfl (fun _ => ?_) (fun _ => ?_) <;> (first | (exfalso; omega) | (exfalso; contradiction) | skip)) | (refine Wl.geq rfl rfl (fun _ => ?_) (fun _ => ?_) <;> (first | (exfalso; omega) | (exfalso; contradiction) | skip)) | (refine Wl.eql rfl rfl (fun _ => ?_) (fun _ => ?_) <;> (first | (exfalso; omega) | (exfalso; contradiction) | skip)) | (refine Wl.neq rfl rfl (fun _ => ?_) (fun _ => ?_) <;> (first | (exfalso; omega) | (exfalso; contradiction) | skip)) | (refine Wl.seql rfl rfl (fun _ => ?_) (fun _ => ?_) <;> (first | (exfalso; omega) | (exfalso; contradiction) | skip)) | (refine Wl.sneq rfl rfl (fun _ => ?_) (fun _ => ?_) <;> (first | (exfalso; omega) | (exfalso; contradiction) | skip))))))
    exact Qfn.ret1 rfl rfl ⟨_, rfl, rfl, n1⟩)
theorem may6 {w : World} {p : List UInt8} {d : Dv} : Calls Tryd.prog 77 #[dvV p d] w (Ret fun r w' => r = .bool (mayM d 6) ∧ New w w') := by
  rcases d with ⟨bo, on, sl, go⟩
  (
    refine calls_of_Wc Tryd.func77 rfl Tryd.ntmps77 rfl ?_
    (repeat' (first | refine Wl.moveE (by conv => { lhs; whnf }) ?_ | refine Wl.assignE (by conv => { lhs; whnf }) ?_ | refine Wl.nil ?_ | refine Wl.extract rfl rfl ?_ | refine Wl.guardY rfl rfl ?_ | refine Wl.guardN rfl rfl ?_ | refine Wl.guardU rfl ?_ | refine Wl.pickTE rfl (by conv => { lhs; whnf }) ?_ | refine Wl.pickFE rfl (by conv => { lhs; whnf }) ?_ | refine Wl.notB rfl ?_ | refine Wl.lenS rfl ?_ | refine Wl.lenStr rfl ?_ | refine Qseq.normal ?_ | refine Wc.seq ?_ | refine Wc.region ?_ | refine Wc.block ?_ | refine Wc.skip ?_ | refine Wc.exit ?_ | refine Wc.ret ?_ | refine Qseq.exit ?_ | refine Qseq.ret ?_ | refine Wc.scope ?_ | refine Wc.label ?_ | refine Qsc.normal ?_ | refine Qsc.exit ?_ | refine Qsc.ret ?_ | refine Qblk.normal ?_ | refine Qblk.ret ?_ | refine Qblk.hit ?_ | refine Qblk.miss rfl ?_ | refine Qloop.exit ?_ | refine Qloop.ret ?_ | refine Wc.condT rfl ?_ | refine Wc.condF rfl ?_ | refine Wl.nilP rfl ?_ | refine Wl.fieldAddr rfl rfl ?_ | refine Wl.nilF rfl ?_ | refine Wl.add rfl rfl (by omega) (by omega) ?_ | refine Wl.sub rfl rfl (by omega) (by omega) ?_ | refine Wl.mul rfl rfl (by omega) (by omega) ?_ | refine Wl.convI rfl ?_ | (refine Wl.lss rfl rfl (fun _ => ?_) (fun _ => ?_) <;> (first | (exfalso; omega) | (exfalso; contradiction) | skip)) | (refine Wl.leq rfl rfl (fun _ => ?_) (fun _ => ?_) <;> (first | (exfalso; omega) | (exfalso; contradiction) | skip)) | (refine Wl.gtr rfl rfl (fun _ => ?_) (fun _ => ?_) <;> (first | (exfalso; omega) | (exfalso; contradiction) | skip)) | (refine Wl.geq rfl rfl (fun _ => ?_) (fun _ => ?_) <;> (first | (exfalso; omega) | (exfalso; contradiction) | skip)) | (refine Wl.eql rfl rfl (fun _ => ?_) (fun _ => ?_) <;> (first | (exfalso; omega) | (exfalso; contradiction) | skip)) | (refine Wl.neq rfl rfl (fun _ => ?_) (fun _ => ?_) <;> (first | (exfalso; omega) | (exfalso; contradiction) | skip)) | (refine Wl.seql rfl rfl (fun _ => ?_) (fun _ => ?_) <;> (first | (exfalso; omega) | (exfalso; contradiction) | skip)) | (refine Wl.sneq rfl rfl (fun _ => ?_) (fun _ => ?_) <;> (first | (exfalso; omega) | (exfalso; contradiction) | skip))))
    refine Wl.box rfl fun w1 b1 n1 s1 => ?_
    replace b1 : Bk w1 w.heap.size tDev (dvC p _) := b1
    (repeat' (first | refine Wl.moveE (by conv => { lhs; whnf }) ?_ | refine Wl.assignE (by conv => { lhs; whnf }) ?_ | refine Wl.nil ?_ | refine Wl.extract rfl rfl ?_ | refine Wl.guardY rfl rfl ?_ | refine Wl.guardN rfl rfl ?_ | refine Wl.guardU rfl ?_ | refine Wl.pickTE rfl (by conv => { lhs; whnf }) ?_ | refine Wl.pickFE rfl (by conv => { lhs; whnf }) ?_ | refine Wl.notB rfl ?_ | refine Wl.lenS rfl ?_ | refine Wl.lenStr rfl ?_ | refine Qseq.normal ?_ | refine Wc.seq ?_ | refine Wc.region ?_ | refine Wc.block ?_ | refine Wc.skip ?_ | refine Wc.exit ?_ | refine Wc.ret ?_ | refine Qseq.exit ?_ | refine Qseq.ret ?_ | refine Wc.scope ?_ | refine Wc.label ?_ | refine Qsc.normal ?_ | refine Qsc.exit ?_ | refine Qsc.ret ?_ | refine Qblk.normal ?_ | refine Qblk.ret ?_ | refine Qblk.hit ?_ | refine Qblk.miss rfl ?_ | refine Qloop.exit ?_ | refine Qloop.ret ?_ | refine Wc.condT rfl ?_ | refine Wc.condF rfl ?_ | refine Wl.nilP rfl ?_ | refine Wl.fieldAddr rfl rfl ?_ | refine Wl.nilF rfl ?_ | refine Wl.add rfl rfl (by omega) (by omega) ?_ | refine Wl.sub rfl rfl (by omega) (by omega) ?_ | refine Wl.mul rfl rfl (by omega) (by omega) ?_ | refine Wl.convI rfl ?_ | (refine Wl.lss rfl rfl (fun _ => ?_) (fun _ => ?_) <;> (first | (exfalso; omega) | (exfalso; contradiction) | skip)) | (refine Wl.leq rfl rfl (fun _ => ?_) (fun _ => ?_) <;> (first | (exfalso; omega) | (exfalso; contradiction) | skip)) | (refine Wl.gtr rfl rfl (fun _ => ?_) (fun _ => ?_) <;> (first | (exfalso; omega) | (exfalso; contradiction) | skip)) | (refine Wl.geq rfl rfl (fun _ => ?_) (fun _ => ?_) <;> (first | (exfalso; omega) | (exfalso; contradiction) | skip)) | (refine Wl.eql rfl rfl (fun _ => ?_) (fun _ => ?_) <;> (first | (exfalso; omega) | (exfalso; contradiction) | skip)) | (refine Wl.neq rfl rfl (fun _ => ?_) (fun _ => ?_) <;> (first | (exfalso; omega) | (exfalso; contradiction) | skip)) | (refine Wl.seql rfl rfl (fun _ => ?_) (fun _ => ?_) <;> (first | (exfalso; omega) | (exfalso; contradiction) | skip)) | (refine Wl.sneq rfl rfl (fun _ => ?_) (fun _ => ?_) <;> (first | (exfalso; omega) | (exfalso; contradiction) | skip))))
    (repeat' (refine Wl.load1 rfl (b1.cell rfl) ?_; (repeat' (first | refine Wl.moveE (by conv => { lhs; whnf }) ?_ | refine Wl.assignE (by conv => { lhs; whnf }) ?_ | refine Wl.nil ?_ | refine Wl.extract rfl rfl ?_ | refine Wl.guardY rfl rfl ?_ | refine Wl.guardN rfl rfl ?_ | refine Wl.guardU rfl ?_ | refine Wl.pickTE rfl (by conv => { lhs; whnf }) ?_ | refine Wl.pickFE rfl (by conv => { lhs; whnf }) ?_ | refine Wl.notB rfl ?_ | refine Wl.lenS rfl ?_ | refine Wl.lenStr rfl ?_ | refine Qseq.normal ?_ | refine Wc.seq ?_ | refine Wc.region ?_ | refine Wc.block ?_ | refine Wc.skip ?_ | refine Wc.exit ?_ | refine Wc.ret ?_ | refine Qseq.exit ?_ | refine Qseq.ret ?_ | refine Wc.scope ?_ | refine Wc.label ?_ | refine Qsc.normal ?_ | refine Qsc.exit ?_ | refine Qsc.ret ?_ | refine Qblk.normal ?_ | refine Qblk.ret ?_ | refine Qblk.hit ?_ | refine Qblk.miss rfl ?_ | refine Qloop.exit ?_ | refine Qloop.ret ?_ | refine Wc.condT rfl ?_ | refine Wc.condF rfl ?_ | refine Wl.nilP rfl ?_ | refine Wl.fieldAddr rfl rfl ?_ | refine Wl.nilF rfl ?_ | refine Wl.add rfl rfl (by omega) (by omega) ?_ | refine Wl.sub rfl rfl (by omega) (by omega) ?_ | refine Wl.mul rfl rfl (by omega) (by omega) ?_ | refine Wl.convI rfl ?_ | (refine Wl.lss rfl rfl (fun _ => ?_) (fun _ => ?_) <;> (first | (exfalso; omega) | (exfalso; contradiction) | skip)) | (refine Wl.leq rfl rfl (fun _ => ?_) (fun _ => ?_) <;> (first | (exfalso; omega) | (exfalso; contradiction) | skip)) | (refine Wl.gtr rfl rfl (fun _ => ?_) (fun _ => ?_) <;> (first | (exfalso; omega) | (exfalso; contradiction) | skip)) | (refine Wl.geq rfl rfl (fun _ => ?_) (fun _ => ?_) <;> (first | (exfalso; omega) | (exfalso; contradiction) | skip)) | (refine Wl.eql rfl rfl (fun _ => ?_) (fun _ => ?_) <;> (first | (exfalso; omega) | (exfalso; contradiction) | skip)) | (refine Wl.neq rfl rfl (fun _ => ?_) (fun _ => ?_) <;> (first | (exfalso; omega) | (exfalso; contradiction) | skip)) | (refine Wl.seql rfl rfl (fun _ => ?_) (fun _ => ?_) <;> (first | (exfalso; omega) | (exfalso; contradiction) | skip)) | (refine Wl.sneq rfl rfl (fun _ => ?_) (fun _ => ?_) <;> (first | (exfalso; omega) | (exfalso; contradiction) | skip))))))
    exact Qfn.ret1 rfl rfl ⟨_, rfl, rfl, n1⟩)
theorem may7 {w : World} {p : List UInt8} {d : Dv} : Calls Tryd.prog 79 #[dvV p d] w (Ret fun r w' => r = .bool (mayM d 7) ∧ New w w') := by
  rcases d with ⟨bo, on, sl, go⟩
  (
    refine calls_of_Wc Tryd.func79 rfl Tryd.ntmps79 rfl ?_
    (repeat' (first | refine Wl.moveE (by conv => { lhs; whnf }) ?_ | refine Wl.assignE (by conv => { lhs; whnf }) ?_ | refine Wl.nil ?_ | refine Wl.extract rfl rfl ?_ | refine Wl.guardY rfl rfl ?_ | refine Wl.guardN rfl rfl ?_ | refine Wl.guardU rfl ?_ | refine Wl.pickTE rfl (by conv => { lhs; whnf }) ?_ | refine Wl.pickFE rfl (by conv => { lhs; whnf }) ?_ | refine Wl.notB rfl ?_ | refine Wl.lenS rfl ?_ | refine Wl.lenStr rfl ?_ | refine Qseq.normal ?_ | refine Wc.seq ?_ | refine Wc.region ?_ | refine Wc.block ?_ | refine Wc.skip ?_ | refine Wc.exit ?_ | refine Wc.ret ?_ | refine Qseq.exit ?_ | refine Qseq.ret ?_ | refine Wc.scope ?_ | refine Wc.label ?_ | refine Qsc.normal ?_ | refine Qsc.exit ?_ | refine Qsc.ret ?_ | refine Qblk.normal ?_ | refine Qblk.ret ?_ | refine Qblk.hit ?_ | refine Qblk.miss rfl ?_ | refine Qloop.exit ?_ | refine Qloop.ret ?_ | refine Wc.condT rfl ?_ | refine Wc.condF rfl ?_ | refine Wl.nilP rfl ?_ | refine Wl.fieldAddr rfl rfl ?_ | refine Wl.nilF rfl ?_ | refine Wl.add rfl rfl (by omega) (by omega) ?_ | refine Wl.sub rfl rfl (by omega) (by omega) ?_ | refine Wl.mul rfl rfl (by omega) (by omega) ?_ | refine Wl.convI rfl ?_ | (refine Wl.lss rfl rfl (fun _ => ?_) (fun _ => ?_) <;> (first | (exfalso; omega) | (exfalso; contradiction) | skip)) | (refine Wl.leq rfl rfl (fun _ => ?_) (fun _ => ?_) <;> (first | (exfalso; omega) | (exfalso; contradiction) | skip)) | (refine Wl.gtr rfl rfl (fun _ => ?_) (fun _ => ?_) <;> (first | (exfalso; omega) | (exfalso; contradiction) | skip)) | (refine Wl.geq rfl rfl (fun _ => ?_) (fun _ => ?_) <;> (first | (exfalso; omega) | (exfalso; contradiction) | skip)) | (refine Wl.eql rfl rfl (fun _ => ?_) (fun _ => ?_) <;> (first | (exfalso; omega) | (exfalso; contradiction) | skip)) | (refine Wl.neq rfl rfl (fun _ => ?_) (fun _ => ?_) <;> (first | (exfalso; omega) | (exfalso; contradiction) | skip)) | (refine Wl.seql rfl rfl (fun _ => ?_) (fun _ => ?_) <;> (first | (exfalso; omega) | (exfalso; contradiction) | skip)) | (refine Wl.sneq rfl rfl (fun _ => ?_) (fun _ => ?_) <;> (first | (exfalso; omega) | (exfalso; contradiction) | skip))))
    refine Wl.box rfl fun w1 b1 n1 s1 => ?_
    replace b1 : Bk w1 w.heap.size tDev (dvC p _) := b1
    (repeat' (first | refine Wl.moveE (by conv => { lhs; whnf }) ?_ | refine Wl.assignE (by conv => { lhs; whnf }) ?_ | refine Wl.nil ?_ | refine Wl.extract rfl rfl ?_ | refine Wl.guardY rfl rfl ?_ | refine Wl.guardN rfl rfl ?_ | refine Wl.guardU rfl ?_ | refine Wl.pickTE rfl (by conv => { lhs; whnf }) ?_ | refine Wl.pickFE rfl (by conv => { lhs; whnf }) ?_ | refine Wl.notB rfl ?_ | refine Wl.lenS rfl ?_ | refine Wl.lenStr rfl ?_ | refine Qseq.normal ?_ | refine Wc.seq ?_ | refine Wc.region ?_ | refine Wc.block ?_ | refine Wc.skip ?_ | refine Wc.exit ?_ | refine Wc.ret ?_ | refine Qseq.exit ?_ | refine Qseq.ret ?_ | refine Wc.scope ?_ | refine Wc.label ?_ | refine Qsc.normal ?_ | refine Qsc.exit ?_ | refine Qsc.ret ?_ | refine Qblk.normal ?_ | refine Qblk.ret ?_ | refine Qblk.hit ?_ | refine Qblk.miss rfl ?_ | refine Qloop.exit ?_ | refine Qloop.ret ?_ | refine Wc.condT rfl ?_ | refine Wc.condF rfl ?_ | refine Wl.nilP rfl ?_ | refine Wl.fieldAddr rfl rfl ?_ | refine Wl.nilF rfl ?_ | refine Wl.add rfl rfl (by omega) (by omega) ?_ | refine Wl.sub rfl rfl (by omega) (by omega) ?_ | refine Wl.mul rfl rfl (by omega) (by omega) ?_ | refine Wl.convI rfl ?_ | (refine Wl.lss rfl rfl (fun _ => ?_) (fun _ => ?_) <;> (first | (exfalso; omega) | (exfalso; contradiction) | skip)) | (refine Wl.leq rfl rfl (fun _ => ?_) (fun _ => ?_) <;> (first | (exfalso; omega) | (exfalso; contradiction) | skip)) | (refine Wl.gtr rfl rfl (fun _ => ?_) (fun _ => ?_) <;> (first | (exfalso; omega) | (exfalso; contradiction) | skip)) | (refine Wl.geq rfl rfl (fun _ => ?_) (fun _ => ?_) <;> (first | (exfalso; omega) | (exfalso; contradiction) | skip)) | (refine Wl.eql rfl rfl (fun _ => ?_) (fun _ => ?_) <;> (first | (exfalso; omega) | (exfalso; contradiction) | skip)) | (refine Wl.neq rfl rfl (fun _ => ?_) (fun _ => ?_) <;> (first | (exfalso; omega) | (exfalso; contradiction) | skip)) | (refine Wl.seql rfl rfl (fun _ => ?_) (fun _ => ?_) <;> (first | (exfalso; omega) | (exfalso; contradiction) | skip)) | (refine Wl.sneq rfl rfl (fun _ => ?_) (fun _ => ?_) <;> (first | (exfalso; omega) | (exfalso; contradiction) | skip))))
    (repeat' (refine Wl.load1 rfl (b1.cell rfl) ?_; (repeat' (first | refine Wl.moveE (by conv => { lhs; whnf }) ?_ | refine Wl.assignE (by conv => { lhs; whnf }) ?_ | refine Wl.nil ?_ | refine Wl.extract rfl rfl ?_ | refine Wl.guardY rfl rfl ?_ | refine Wl.guardN rfl rfl ?_ | refine Wl.guardU rfl ?_ | refine Wl.pickTE rfl (by conv => { lhs; whnf }) ?_ | refine Wl.pickFE rfl (by conv => { lhs; whnf }) ?_ | refine Wl.notB rfl ?_ | refine Wl.lenS rfl ?_ | refine Wl.lenStr rfl ?_ | refine Qseq.normal ?_ | refine Wc.seq ?_ | refine Wc.region ?_ | refine Wc.block ?_ | refine Wc.skip ?_ | refine Wc.exit ?_ | refine Wc.ret ?_ | refine Qseq.exit ?_ | refine Qseq.ret ?_ | refine Wc.scope ?_ | refine Wc.label ?_ | refine Qsc.normal ?_ | refine Qsc.exit ?_ | refine Qsc.ret ?_ | refine Qblk.normal ?_ | refine Qblk.ret ?_ | refine Qblk.hit ?_ | refine Qblk.miss rfl ?_ | refine Qloop.exit ?_ | refine Qloop.ret ?_ | refine Wc.condT rfl ?_ | refine Wc.condF rfl ?_ | refine Wl.nilP rfl ?_ | refine Wl.fieldAddr rfl rfl ?_ | refine Wl.nilF rfl ?_ | refine Wl.add rfl rfl (by omega) (by omega) ?_ | refine Wl.sub rfl rfl (by omega) (by omega) ?_ | refine Wl.mul rfl rfl (by omega) (by omega) ?_ | refine Wl.convI rfl ?_ | (refine Wl.lss rfl rfl (fun _ => ?_) (fun _ => ?_) <;> (first | (exfalso; omega) | (exfalso; contradiction) | skip)) | (refine Wl.leq rfl rfl (fun _ => ?_) (fun _ => ?_) <;> (first | (exfalso; omega) | (exfalso; contradiction) | skip)) | (refine Wl.gtr rfl rfl (fun _ => ?_) (fun _ => ?_) <;> (first | (exfalso; omega) | (exfalso; contradiction) | skip)) | (refine Wl.geq rfl rfl (fun _ => ?_) (fun _ => ?_) <;> (first | (exfalso; omega) | (exfalso; contradiction) | skip)) | (refine Wl.eql rfl rfl (fun _ => ?_) (fun _ => ?_) <;> (first | (exfalso; omega) | (exfalso; contradiction) | skip)) | (refine Wl.neq rfl rfl (fun _ => ?_) (fun _ => ?_) <;> (first | (exfalso; omega) | (exfalso; contradiction) | skip)) | (refine Wl.seql rfl rfl (fun _ => ?_) (fun _ => ?_) <;> (first | (exfalso; omega) | (exfalso; contradiction) | skip)) | (refine Wl.sneq rfl rfl (fun _ => ?_) (fun _ => ?_) <;> (first | (exfalso; omega) | (exfalso; contradiction) | skip))))))
    exact Qfn.ret1 rfl rfl ⟨_, rfl, rfl, n1⟩)
theorem may8 {w : World} {p : List UInt8} {d : Dv} : Calls Tryd.prog 81 #[dvV p d] w (Ret fun r w' => r = .bool (mayM d 8) ∧ New w w') := by
  rcases d with ⟨bo, on, sl, go⟩
  cases go <;> cases bo <;> cases on <;> (
    refine calls_of_Wc Tryd.func81 rfl Tryd.ntmps81 rfl ?_
    (repeat' (first | refine Wl.moveE (by conv => { lhs; whnf }) ?_ | refine Wl.assignE (by conv => { lhs; whnf }) ?_ | refine Wl.nil ?_ | refine Wl.extract rfl rfl ?_ | refine Wl.guardY rfl rfl ?_ | refine Wl.guardN rfl rfl ?_ | refine Wl.guardU rfl ?_ | refine Wl.pickTE rfl (by conv => { lhs; whnf }) ?_ | refine Wl.pickFE rfl (by conv => { lhs; whnf }) ?_ | refine Wl.notB rfl ?_ | refine Wl.lenS rfl ?_ | refine Wl.lenStr rfl ?_ | refine Qseq.normal ?_ | refine Wc.seq ?_ | refine Wc.region ?_ | refine Wc.block ?_ | refine Wc.skip ?_ | refine Wc.exit ?_ | refine Wc.ret ?_ | refine Qseq.exit ?_ | refine Qseq.ret ?_ | refine Wc.scope ?_ | refine Wc.label ?_ | refine Qsc.normal ?_ | refine Qsc.exit ?_ | refine Qsc.ret ?_ | refine Qblk.normal ?_ | refine Qblk.ret ?_ | refine Qblk.hit ?_ | refine Qblk.miss rfl ?_ | refine Qloop.exit ?_ | refine Qloop.ret ?_ | refine Wc.condT rfl ?_ | refine Wc.condF rfl ?_ | refine Wl.nilP rfl ?_ | refine Wl.fieldAddr rfl rfl ?_ | refine Wl.nilF rfl ?_ | refine Wl.add rfl rfl (by omega) (by omega) ?_ | refine Wl.sub rfl rfl (by omega) (by omega) ?_ | refine Wl.mul rfl rfl (by omega) (by omega) ?_ | refine Wl.convI rfl ?_ | (refine Wl.lss rfl rfl (fun _ => ?_) (fun _ => ?_) <;> (first | (exfalso; omega) | (exfalso; contradiction) | skip)) | (refine Wl.leq rfl rfl (fun _ => ?_) (fun _ => ?_) <;> (first | (exfalso; omega) | (exfalso; contradiction) | skip)) | (refine Wl.gtr rfl rfl (fun _ => ?_) (fun _ => ?_) <;> (first | (exfalso; omega) | (exfalso; contradiction) | skip)) | (refine Wl.geq rfl rfl (fun _ => ?_) (fun _ => ?_) <;> (first | (exfalso; omega) | (exfalso; contradiction) | skip)) | (refine Wl.eql rfl rfl (fun _ => ?_) (fun _ => ?_) <;> (first | (exfalso; omega) | (exfalso; contradiction) | skip)) | (refine Wl.neq rfl rfl (fun _ => ?_) (fun _ => ?_) <;> (first | (exfalso; omega) | (exfalso; contradiction) | skip)) | (refine Wl.seql rfl rfl (fun _ => ?_) (fun _ => ?_) <;> (first | (exfalso; omega) | (exfalso; contradiction) | skip)) | (refine Wl.sneq rfl rfl (fun _ => ?_) (fun _ => ?_) <;> (first | (exfalso; omega) | (exfalso; contradiction) | skip))))
    refine Wl.box rfl fun w1 b1 n1 s1 => ?_
    replace b1 : Bk w1 w.heap.size tDev (dvC p _) := b1
    (repeat' (first | refine Wl.moveE (by conv => { lhs; whnf }) ?_ | refine Wl.assignE (by conv => { lhs; whnf }) ?_ | refine Wl.nil ?_ | refine Wl.extract rfl rfl ?_ | refine Wl.guardY rfl rfl ?_ | refine Wl.guardN rfl rfl ?_ | refine Wl.guardU rfl ?_ | refine Wl.pickTE rfl (by conv => { lhs; whnf }) ?_ | refine Wl.pickFE rfl (by conv => { lhs; whnf }) ?_ | refine Wl.notB rfl ?_ | refine Wl.lenS rfl ?_ | refine Wl.lenStr rfl ?_ | refine Qseq.normal ?_ | refine Wc.seq ?_ | refine Wc.region ?_ | refine Wc.block ?_ | refine Wc.skip ?_ | refine Wc.exit ?_ | refine Wc.ret ?_ | refine Qseq.exit ?_ | refine Qseq.ret ?_ | refine Wc.scope ?_ | refine Wc.label ?_ | refine Qsc.normal ?_ | refine Qsc.exit ?_ | refine Qsc.ret ?_ | refine Qblk.normal ?_ | refine Qblk.ret ?_ | refine Qblk.hit ?_ | refine Qblk.miss rfl ?_ | refine Qloop.exit ?_ | refine Qloop.ret ?_ | refine Wc.condT rfl ?_ | refine Wc.condF rfl ?_ | refine Wl.nilP rfl ?_ | refine Wl.fieldAddr rfl rfl ?_ | refine Wl.nilF rfl ?_ | refine Wl.add rfl rfl (by omega) (by omega) ?_ | refine Wl.sub rfl rfl (by omega) (by omega) ?_ | refine Wl.mul rfl rfl (by omega) (by omega) ?_ | refine Wl.convI rfl ?_ | (refine Wl.lss rfl rfl (fun _ => ?_) (fun _ => ?_) <;> (first | (exfalso; omega) | (exfalso; contradiction) | skip)) | (refine Wl.leq rfl rfl (fun _ => ?_) (fun _ => ?_) <;> (first | (exfalso; omega) | (exfalso; contradiction) | skip)) | (refine Wl.gtr rfl rfl (fun _ => ?_) (fun _ => ?_) <;> (first | (exfalso; omega) | (exfalso; contradiction) | skip)) | (refine Wl.geq rfl rfl (fun _ => ?_) (fun _ => ?_) <;> (first | (exfalso; omega) | (exfalso; contradiction) | skip)) | (refine Wl.eql rfl rfl (fun _ => ?_) (fun _ => ?_) <;> (first | (exfalso; omega) | (exfalso; contradiction) | skip)) | (refine Wl.neq rfl rfl (fun _ => ?_) (fun _ => ?_) <;> (first | (exfalso; omega) | (exfalso; contradiction) | skip)) | (refine Wl.seql rfl rfl (fun _ => ?_) (fun _ => ?_) <;> (first | (exfalso; omega) | (exfalso; contradiction) | skip)) | (refine Wl.sneq rfl rfl (fun _ => ?_) (fun _ => ?_) <;> (first | (exfalso; omega) | (exfalso; contradiction) | skip))))
    (repeat' (refine Wl.load1 rfl (b1.cell rfl) ?_; (repeat' (first | refine Wl.moveE (by conv => { lhs; whnf }) ?_ | refine Wl.assignE (by conv => { lhs; whnf }) ?_ | refine Wl.nil ?_ | refine Wl.extract rfl rfl ?_ | refine Wl.guardY rfl rfl ?_ | refine Wl.guardN rfl rfl ?_ | refine Wl.guardU rfl ?_ | refine Wl.pickTE rfl (by conv => { lhs; whnf }) ?_ | refine Wl.pickFE rfl (by conv => { lhs; whnf }) ?_ | refine Wl.notB rfl ?_ | refine Wl.lenS rfl ?_ | refine Wl.lenStr rfl ?_ | refine Qseq.normal ?_ | refine Wc.seq ?_ | refine Wc.region ?_ | refine Wc.block ?_ | refine Wc.skip ?_ | refine Wc.exit ?_ | refine Wc.ret ?_ | refine Qseq.exit ?_ | refine Qseq.ret ?_ | refine Wc.scope ?_ | refine Wc.label ?_ | refine Qsc.normal ?_ | refine Qsc.exit ?_ | refine Qsc.ret ?_ | refine Qblk.normal ?_ | refine Qblk.ret ?_ | refine Qblk.hit ?_ | refine Qblk.miss rfl ?_ | refine Qloop.exit ?_ | refine Qloop.ret ?_ | refine Wc.condT rfl ?_ | refine Wc.condF rfl ?_ | refine Wl.nilP rfl ?_ | refine Wl.fieldAddr rfl rfl ?_ | refine Wl.nilF rfl ?_ | refine Wl.add rfl rfl (by omega) (by omega) ?_ | refine Wl.sub rfl rfl (by omega) (by omega) ?_ | refine Wl.mul rfl rfl (by omega) (by omega) ?_ | refine Wl.convI rfl ?_ | (refine Wl.lss rfl rfl (fun _ => ?_) (fun _ => ?_) <;> (first | (exfalso; omega) | (exfalso; contradiction) | skip)) | (refine Wl.leq rfl rfl (fun _ => ?_) (fun _ => ?_) <;> (first | (exfalso; omega) | (exfalso; contradiction) | skip)) | (refine Wl.gtr rfl rfl (fun _ => ?_) (fun _ => ?_) <;> (first | (exfalso; omega) | (exfalso; contradiction) | skip)) | (refine Wl.geq rfl rfl (fun _ => ?_) (fun _ => ?_) <;> (first | (exfalso; omega) | (exfalso; contradiction) | skip)) | (refine Wl.eql rfl rfl (fun _ => ?_) (fun _ => ?_) <;> (first | (exfalso; omega) | (exfalso; contradiction) | skip)) | (refine Wl.neq rfl rfl (fun _ => ?_) (fun _ => ?_) <;> (first | (exfalso; omega) | (exfalso; contradiction) | skip)) | (refine Wl.seql rfl rfl (fun _ => ?_) (fun _ => ?_) <;> (first | (exfalso; omega) | (exfalso; contradiction) | skip)) | (refine Wl.sneq rfl rfl (fun _ => ?_) (fun _ => ?_) <;> (first | (exfalso; omega) | (exfalso; contradiction) | skip))))))
    exact Qfn.ret1 rfl rfl ⟨_, rfl, rfl, n1⟩)
theorem may9 {w : World} {p : List UInt8} {d : Dv} : Calls Tryd.prog 83 #[dvV p d] w (Ret fun r w' => r = .bool (mayM d 9) ∧ New w w') := by
  rcases d with ⟨bo, on, sl, go⟩
  (
    refine calls_of_Wc Tryd.func83 rfl Tryd.ntmps83 rfl ?_
    (repeat' (first | refine Wl.moveE (by conv => { lhs; whnf }) ?_ | refine Wl.assignE (by conv => { lhs; whnf }) ?_ | refine Wl.nil ?_ | refine Wl.extract rfl rfl ?_ | refine Wl.guardY rfl rfl ?_ | refine Wl.guardN rfl rfl ?_ | refine Wl.guardU rfl ?_ | refine Wl.pickTE rfl (by conv => { lhs; whnf }) ?_ | refine Wl.pickFE rfl (by conv => { lhs; whnf }) ?_ | refine Wl.notB rfl ?_ | refine Wl.lenS rfl ?_ | refine Wl.lenStr rfl ?_ | refine Qseq.normal ?_ | refine Wc.seq ?_ | refine Wc.region ?_ | refine Wc.block ?_ | refine Wc.skip ?_ | refine Wc.exit ?_ | refine Wc.ret ?_ | refine Qseq.exit ?_ | refine Qseq.ret ?_ | refine Wc.scope ?_ | refine Wc.label ?_ | refine Qsc.normal ?_ | refine Qsc.exit ?_ | refine Qsc.ret ?_ | refine Qblk.normal ?_ | refine Qblk.ret ?_ | refine Qblk.hit ?_ | refine Qblk.miss rfl ?_ | refine Qloop.exit ?_ | refine Qloop.ret ?_ | refine Wc.condT rfl ?_ | refine Wc.condF rfl ?_ | refine Wl.nilP rfl ?_ | refine Wl.fieldAddr rfl rfl ?_ | refine Wl.nilF rfl ?_ | refine Wl.add rfl rfl (by omega) (by omega) ?_ | refine Wl.sub rfl rfl (by omega) (by omega) ?_ | refine Wl.mul rfl rfl (by omega) (by omega) ?_ | refine Wl.convI rfl ?_ | (refine Wl.lss rfl rfl (fun _ => ?_) (fun _ => ?_) <;> (first | (exfalso; omega) | (exfalso; contradiction) | skip)) | (refine Wl.leq rfl rfl (fun _ => ?_) (fun _ => ?_) <;> (first | (exfalso; omega) | (exfalso; contradiction) | skip)) | (refine Wl.gtr rfl rfl (fun _ => ?_) (fun _ => ?_) <;> (first | (exfalso; omega) | (exfalso; contradiction) | skip)) | (refine Wl.geq rfl rfl (fun _ => ?_) (fun _ => ?_) <;> (first | (exfalso; omega) | (exfalso; contradiction) | skip)) | (refine Wl.eql rfl rfl (fun _ => ?_) (fun _ => ?_) <;> (first | (exfalso; omega) | (exfalso; contradiction) | skip)) | (refine Wl.neq rfl rfl (fun _ => ?_) (fun _ => ?_) <;> (first | (exfalso; omega) | (exfalso; contradiction) | skip)) | (refine Wl.seql rfl rfl (fun _ => ?_) (fun _ => ?_) <;> (first | (exfalso; omega) | (exfalso; contradiction) | skip)) | (refine Wl.sneq rfl rfl (fun _ => ?_) (fun _ => ?_) <;> (first | (exfalso; omega) | (exfalso; contradiction) | skip))))
    refine Wl.box rfl fun w1 b1 n1 s1 => ?_
    replace b1 : Bk w1 w.heap.size tDev (dvC p _) := b1
    (repeat' (first | refine Wl.moveE (by conv => { lhs; whnf }) ?_ | refine Wl.assignE (by conv => { lhs; whnf }) ?_ | refine Wl.nil ?_ | refine Wl.extract rfl rfl ?_ | refine Wl.guardY rfl rfl ?_ | refine Wl.guardN rfl rfl ?_ | refine Wl.guardU rfl ?_ | refine Wl.pickTE rfl (by conv => { lhs; whnf }) ?_ | refine Wl.pickFE rfl (by conv => { lhs; whnf }) ?_ | refine Wl.notB rfl ?_ | refine Wl.lenS rfl ?_ | refine Wl.lenStr rfl ?_ | refine Qseq.normal ?_ | refine Wc.seq ?_ | refine Wc.region ?_ | refine Wc.block ?_ | refine Wc.skip ?_ | refine Wc.exit ?_ | refine Wc.ret ?_ | refine Qseq.exit ?_ | refine Qseq.ret ?_ | refine Wc.scope ?_ | refine Wc.label ?_ | refine Qsc.normal ?_ | refine Qsc.exit ?_ | refine Qsc.ret ?_ | refine Qblk.normal ?_ | refine Qblk.ret ?_ | refine Qblk.hit ?_ | refine Qblk.miss rfl ?_ | refine Qloop.exit ?_ | refine Qloop.ret ?_ | refine Wc.condT rfl ?_ | refine Wc.condF rfl ?_ | refine Wl.nilP rfl ?_ | refine Wl.fieldAddr rfl rfl ?_ | refine Wl.nilF rfl ?_ | refine Wl.add rfl rfl (by omega) (by omega) ?_ | refine Wl.sub rfl rfl (by omega) (by omega) ?_ | refine Wl.mul rfl rfl (by omega) (by omega) ?_ | refine Wl.convI rfl ?_ | (refine Wl.lss rfl rfl (fun _ => ?_) (fun _ => ?_) <;> (first | (exfalso; omega) | (exfalso; contradiction) | skip)) | (refine Wl.leq rfl rfl (fun _ => ?_) (fun _ => ?_) <;> (first | (exfalso; omega) | (exfalso; contradiction) | skip)) | (refine Wl.gtr rfl rfl (fun _ => ?_) (fun _ => ?_) <;> (first | (exfalso; omega) | (exfalso; contradiction) | skip)) | (refine Wl.geq rfl rfl (fun _ => ?_) (fun _ => ?_) <;> (first | (exfalso; omega) | (exfalso; contradiction) | skip)) | (refine Wl.eql rfl rfl (fun _ => ?_) (fun _ => ?_) <;> (first | (exfalso; omega) | (exfalso; contradiction) | skip)) | (refine Wl.neq rfl rfl (fun _ => ?_) (fun _ => ?_) <;> (first | (exfalso; omega) | (exfalso; contradiction) | skip)) | (refine Wl.seql rfl rfl (fun _ => ?_) (fun _ => ?_) <;> (first | (exfalso; omega) | (exfalso; contradiction) | skip)) | (refine Wl.sneq rfl rfl (fun _ => ?_) (fun _ => ?_) <;> (first | (exfalso; omega) | (exfalso; contradiction) | skip))))
    (repeat' (refine Wl.load1 rfl (b1.cell rfl) ?_; (repeat' (first | refine Wl.moveE (by conv => { lhs; whnf }) ?_ | refine Wl.assignE (by conv => { lhs; whnf }) ?_ | refine Wl.nil ?_ | refine Wl.extract rfl rfl ?_ | refine Wl.guardY rfl rfl ?_ | refine Wl.guardN rfl rfl ?_ | refine Wl.guardU rfl ?_ | refine Wl.pickTE rfl (by conv => { lhs; whnf }) ?_ | refine Wl.pickFE rfl (by conv => { lhs; whnf }) ?_ | refine Wl.notB rfl ?_ | refine Wl.lenS rfl ?_ | refine Wl.lenStr rfl ?_ | refine Qseq.normal ?_ | refine Wc.seq ?_ | refine Wc.region ?_ | refine Wc.block ?_ | refine Wc.skip ?_ | refine Wc.exit ?_ | refine Wc.ret ?_ | refine Qseq.exit ?_ | refine Qseq.ret ?_ | refine Wc.scope ?_ | refine Wc.label ?_ | refine Qsc.normal ?_ | refine Qsc.exit ?_ | refine Qsc.ret ?_ | refine Qblk.normal ?_ | refine Qblk.ret ?_ | refine Qblk.hit ?_ | refine Qblk.miss rfl ?_ | refine Qloop.exit ?_ | refine Qloop.ret ?_ | refine Wc.condT rfl ?_ | refine Wc.condF rfl ?_ | refine Wl.nilP rfl ?_ | refine Wl.fieldAddr rfl rfl ?_ | refine Wl.nilF rfl ?_ | refine Wl.add rfl rfl (by omega) (by omega) ?_ | refine Wl.sub rfl rfl (by omega) (by omega) ?_ | refine Wl.mul rfl rfl (by omega) (by omega) ?_ | refine Wl.convI rfl ?_ | (refine Wl.lss rfl rfl (fun _ => ?_) (fun _ => ?_) <;> (first | (exfalso; omega) | (exfalso; contradiction) | skip)) | (refine Wl.leq rfl rfl (fun _ => ?_) (fun _ => ?_) <;> (first | (exfalso; omega) | (exfalso; contradiction) | skip)) | (refine Wl.gtr rfl rfl (fun _ => ?_) (fun _ => ?_) <;> (first | (exfalso; omega) | (exfalso; contradiction) | skip)) | (refine Wl.geq rfl rfl (fun _ => ?_) (fun _ => ?_) <;> (first | (exfalso; omega) | (exfalso; contradiction) | skip)) | (refine Wl.eql rfl rfl (fun _ => ?_) (fun _ => ?_) <;> (first | (exfalso; omega) | (exfalso; contradiction) | skip)) | (refine Wl.neq rfl rfl (fun _ => ?_) (fun _ => ?_) <;> (first | (exfalso; omega) | (exfalso; contradiction) | skip)) | (refine Wl.seql rfl rfl (fun _ => ?_) (fun _ => ?_) <;> (first | (exfalso; omega) | (exfalso; contradiction) | skip)) | (refine Wl.sneq rfl rfl (fun _ => ?_) (fun _ => ?_) <;> (first | (exfalso; omega) | (exfalso; contradiction) | skip))))))
    exact Qfn.ret1 rfl rfl ⟨_, rfl, rfl, n1⟩)
theorem do1 {w : World} {b : Nat} {p : List UInt8} {d : Dv} (h : Bk w b tDev (dvC p d)) : Calls Tryd.prog 68 #[pT b] w (Ret fun _ w' => Bk w' b tDev (dvC p (doM d 1)) ∧ Chg (fun k => k = b) w w') := by
  refine calls_of_Wc Tryd.func68 rfl Tryd.ntmps68 rfl ?_
  (repeat' (first | refine Wl.moveE (by conv => { lhs; whnf }) ?_ | refine Wl.assignE (by conv => { lhs; whnf }) ?_ | refine Wl.nil ?_ | refine Wl.extract rfl rfl ?_ | refine Wl.guardY rfl rfl ?_ | refine Wl.guardN rfl rfl ?_ | refine Wl.guardU rfl ?_ | refine Wl.pickTE rfl (by conv => { lhs; whnf }) ?_ | refine Wl.pickFE rfl (by conv => { lhs; whnf }) ?_ | refine Wl.notB rfl ?_ | refine Wl.lenS rfl ?_ | refine Wl.lenStr rfl ?_ | refine Qseq.normal ?_ | refine Wc.seq ?_ | refine Wc.region ?_ | refine Wc.block ?_ | refine Wc.skip ?_ | refine Wc.exit ?_ | refine Wc.ret ?_ | refine Qseq.exit ?_ | refine Qseq.ret ?_ | refine Wc.scope ?_ | refine Wc.label ?_ | refine Qsc.normal ?_ | refine Qsc.exit ?_ | refine Qsc.ret ?_ | refine Qblk.normal ?_ | refine Qblk.ret ?_ | refine Qblk.hit ?_ | refine Qblk.miss rfl ?_ | refine Qloop.exit ?_ | refine Qloop.ret ?_ | refine Wc.condT rfl ?_ | refine Wc.condF rfl ?_ | refine Wl.nilP rfl ?_ | refine Wl.fieldAddr rfl rfl ?_ | refine Wl.nilF rfl ?_ | refine Wl.add rfl rfl (by omega) (by omega) ?_ | refine Wl.sub rfl rfl (by omega) (by omega) ?_ | refine Wl.mul rfl rfl (by omega) (by omega) ?_ | refine Wl.convI rfl ?_ | (refine Wl.lss rfl rfl (fun _ => ?_) (fun _ => ?_) <;> (first | (exfalso; omega) | (exfalso; contradiction) | skip)) | (refine Wl.leq rfl rfl (fun _ => ?_) (fun _ => ?_) <;> (first | (exfalso; omega) | (exfalso; contradiction) | skip)) | (refine Wl.gtr rfl rfl (fun _ => ?_) (fun _ => ?_) <;> (first | (exfalso; omega) | (exfalso; contradiction) | skip)) | (refine Wl.geq rfl rfl (fun _ => ?_) (fun _ => ?_) <;> (first | (exfalso; omega) | (exfalso; contradiction) | skip)) | (refine Wl.eql rfl rfl (fun _ => ?_) (fun _ => ?_) <;> (first | (exfalso; omega) | (exfalso; contradiction) | skip)) | (refine Wl.neq rfl rfl (fun _ => ?_) (fun _ => ?_) <;> (first | (exfalso; omega) | (exfalso; contradiction) | skip)) | (refine Wl.seql rfl rfl (fun _ => ?_) (fun _ => ?_) <;> (first | (exfalso; omega) | (exfalso; contradiction) | skip)) | (refine Wl.sneq rfl rfl (fun _ => ?_) (fun _ => ?_) <;> (first | (exfalso; omega) | (exfalso; contradiction) | skip))))
  refine Wl.store1 h rfl (by simp [dvC]) rfl rfl fun w1 b1 c1 => ?_
  (repeat' (first | refine Wl.moveE (by conv => { lhs; whnf }) ?_ | refine Wl.assignE (by conv => { lhs; whnf }) ?_ | refine Wl.nil ?_ | refine Wl.extract rfl rfl ?_ | refine Wl.guardY rfl rfl ?_ | refine Wl.guardN rfl rfl ?_ | refine Wl.guardU rfl ?_ | refine Wl.pickTE rfl (by conv => { lhs; whnf }) ?_ | refine Wl.pickFE rfl (by conv => { lhs; whnf }) ?_ | refine Wl.notB rfl ?_ | refine Wl.lenS rfl ?_ | refine Wl.lenStr rfl ?_ | refine Qseq.normal ?_ | refine Wc.seq ?_ | refine Wc.region ?_ | refine Wc.block ?_ | refine Wc.skip ?_ | refine Wc.exit ?_ | refine Wc.ret ?_ | refine Qseq.exit ?_ | refine Qseq.ret ?_ | refine Wc.scope ?_ | refine Wc.label ?_ | refine Qsc.normal ?_ | refine Qsc.exit ?_ | refine Qsc.ret ?_ | refine Qblk.normal ?_ | refine Qblk.ret ?_ | refine Qblk.hit ?_ | refine Qblk.miss rfl ?_ | refine Qloop.exit ?_ | refine Qloop.ret ?_ | refine Wc.condT rfl ?_ | refine Wc.condF rfl ?_ | refine Wl.nilP rfl ?_ | refine Wl.fieldAddr rfl rfl ?_ | refine Wl.nilF rfl ?_ | refine Wl.add rfl rfl (by omega) (by omega) ?_ | refine Wl.sub rfl rfl (by omega) (by omega) ?_ | refine Wl.mul rfl rfl (by omega) (by omega) ?_ | refine Wl.convI rfl ?_ | (refine Wl.lss rfl rfl (fun _ => ?_) (fun _ => ?_) <;> (first | (exfalso; omega) | (exfalso; contradiction) | skip)) | (refine Wl.leq rfl rfl (fun _ => ?_) (fun _ => ?_) <;> (first | (exfalso; omega) | (exfalso; contradiction) | skip)) | (refine Wl.gtr rfl rfl (fun _ => ?_) (fun _ => ?_) <;> (first | (exfalso; omega) | (exfalso; contradiction) | skip)) | (refine Wl.geq rfl rfl (fun _ => ?_) (fun _ => ?_) <;> (first | (exfalso; omega) | (exfalso; contradiction) | skip)) | (refine Wl.eql rfl rfl (fun _ => ?_) (fun _ => ?_) <;> (first | (exfalso; omega) | (exfalso; contradiction) | skip)) | (refine Wl.neq rfl rfl (fun _ => ?_) (fun _ => ?_) <;> (first | (exfalso; omega) | (exfalso; contradiction) | skip)) | (refine Wl.seql rfl rfl (fun _ => ?_) (fun _ => ?_) <;> (first | (exfalso; omega) | (exfalso; contradiction) | skip)) | (refine Wl.sneq rfl rfl (fun _ => ?_) (fun _ => ?_) <;> (first | (exfalso; omega) | (exfalso; contradiction) | skip))))
  exact Qfn.end0 rfl ⟨_, rfl, b1, c1⟩
theorem do2 {w : World} {b : Nat} {p : List UInt8} {d : Dv} (h : Bk w b tDev (dvC p d)) : Calls Tryd.prog 70 #[pT b] w (Ret fun _ w' => Bk w' b tDev (dvC p (doM d 2)) ∧ Chg (fun k => k = b) w w') := by
  refine calls_of_Wc Tryd.func70 rfl Tryd.ntmps70 rfl ?_
  (repeat' (first | refine Wl.moveE (by conv => { lhs; whnf }) ?_ | refine Wl.assignE (by conv => { lhs; whnf }) ?_ | refine Wl.nil ?_ | refine Wl.extract rfl rfl ?_ | refine Wl.guardY rfl rfl ?_ | refine Wl.guardN rfl rfl ?_ | refine Wl.guardU rfl ?_ | refine Wl.pickTE rfl (by conv => { lhs; whnf }) ?_ | refine Wl.pickFE rfl (by conv => { lhs; whnf }) ?_ | refine Wl.notB rfl ?_ | refine Wl.lenS rfl ?_ | refine Wl.lenStr rfl ?_ | refine Qseq.normal ?_ | refine Wc.seq ?_ | refine Wc.region ?_ | refine Wc.block ?_ | refine Wc.skip ?_ | refine Wc.exit ?_ | refine Wc.ret ?_ | refine Qseq.exit ?_ | refine Qseq.ret ?_ | refine Wc.scope ?_ | refine Wc.label ?_ | refine Qsc.normal ?_ | refine Qsc.exit ?_ | refine Qsc.ret ?_ | refine Qblk.normal ?_ | refine Qblk.ret ?_ | refine Qblk.hit ?_ | refine Qblk.miss rfl ?_ | refine Qloop.exit ?_ | refine Qloop.ret ?_ | refine Wc.condT rfl ?_ | refine Wc.condF rfl ?_ | refine Wl.nilP rfl ?_ | refine Wl.fieldAddr rfl rfl ?_ | refine Wl.nilF rfl ?_ | refine Wl.add rfl rfl (by omega) (by omega) ?_ | refine Wl.sub rfl rfl (by omega) (by omega) ?_ | refine Wl.mul rfl rfl (by omega) (by omega) ?_ | refine Wl.convI rfl ?_ | (refine Wl.lss rfl rfl (fun _ => ?_) (fun _ => ?_) <;> (first | (exfalso; omega) | (exfalso; contradiction) | skip)) | (refine Wl.leq rfl rfl (fun _ => ?_) (fun _ => ?_) <;> (first | (exfalso; omega) | (exfalso; contradiction) | skip)) | (refine Wl.gtr rfl rfl (fun _ => ?_) (fun _ => ?_) <;> (first | (exfalso; omega) | (exfalso; contradiction) | skip)) | (refine Wl.geq rfl rfl (fun _ => ?_) (fun _ => ?_) <;> (first | (exfalso; omega) | (exfalso; contradiction) | skip)) | (refine Wl.eql rfl rfl (fun _ => ?_) (fun _ => ?_) <;> (first | (exfalso; omega) | (exfalso; contradiction) | skip)) | (refine Wl.neq rfl rfl (fun _ => ?_) (fun _ => ?_) <;> (first | (exfalso; omega) | (exfalso; contradiction) | skip)) | (refine Wl.seql rfl rfl (fun _ => ?_) (fun _ => ?_) <;> (first | (exfalso; omega) | (exfalso; contradiction) | skip)) | (refine Wl.sneq rfl rfl (fun _ => ?_) (fun _ => ?_) <;> (first | (exfalso; omega) | (exfalso; contradiction) | skip))))
  refine Wl.store1 h rfl (by simp [dvC]) rfl rfl fun w1 b1 c1 => ?_
  (repeat' (first | refine Wl.moveE (by conv => { lhs; whnf }) ?_ | refine Wl.assignE (by conv => { lhs; whnf }) ?_ | refine Wl.nil ?_ | refine Wl.extract rfl rfl ?_ | refine Wl.guardY rfl rfl ?_ | refine Wl.guardN rfl rfl ?_ | refine Wl.guardU rfl ?_ | refine Wl.pickTE rfl (by conv => { lhs; whnf }) ?_ | refine Wl.pickFE rfl (by conv => { lhs; whnf }) ?_ | refine Wl.notB rfl ?_ | refine Wl.lenS rfl ?_ | refine Wl.lenStr rfl ?_ | refine Qseq.normal ?_ | refine Wc.seq ?_ | refine Wc.region ?_ | refine Wc.block ?_ | refine Wc.skip ?_ | refine Wc.exit ?_ | refine Wc.ret ?_ | refine Qseq.exit ?_ | refine Qseq.ret ?_ | refine Wc.scope ?_ | refine Wc.label ?_ | refine Qsc.normal ?_ | refine Qsc.exit ?_ | refine Qsc.ret ?_ | refine Qblk.normal ?_ | refine Qblk.ret ?_ | refine Qblk.hit ?_ | refine Qblk.miss rfl ?_ | refine Qloop.exit ?_ | refine Qloop.ret ?_ | refine Wc.condT rfl ?_ | refine Wc.condF rfl ?_ | refine Wl.nilP rfl ?_ | refine Wl.fieldAddr rfl rfl ?_ | refine Wl.nilF rfl ?_ | refine Wl.add rfl rfl (by omega) (by omega) ?_ | refine Wl.sub rfl rfl (by omega) (by omega) ?_ | refine Wl.mul rfl rfl (by omega) (by omega) ?_ | refine Wl.convI rfl ?_ | (refine Wl.lss rfl rfl (fun _ => ?_) (fun _ => ?_) <;> (first | (exfalso; omega) | (exfalso; contradiction) | skip)) | (refine Wl.leq rfl rfl (fun _ => ?_) (fun _ => ?_) <;> (first | (exfalso; omega) | (exfalso; contradiction) | skip)) | (refine Wl.gtr rfl rfl (fun _ => ?_) (fun _ => ?_) <;> (first | (exfalso; omega) | (exfalso; contradiction) | skip)) | (refine Wl.geq rfl rfl (fun _ => ?_) (fun _ => ?_) <;> (first | (exfalso; omega) | (exfalso; contradiction) | skip)) | (refine Wl.eql rfl rfl (fun _ => ?_) (fun _ => ?_) <;> (first | (exfalso; omega) | (exfalso; contradiction) | skip)) | (refine Wl.neq rfl rfl (fun _ => ?_) (fun _ => ?_) <;> (first | (exfalso; omega) | (exfalso; contradiction) | skip)) | (refine Wl.seql rfl rfl (fun _ => ?_) (fun _ => ?_) <;> (first | (exfalso; omega) | (exfalso; contradiction) | skip)) | (refine Wl.sneq rfl rfl (fun _ => ?_) (fun _ => ?_) <;> (first | (exfalso; omega) | (exfalso; contradiction) | skip))))
  exact Qfn.end0 rfl ⟨_, rfl, b1, c1⟩
theorem do3 {w : World} {b : Nat} {p : List UInt8} {d : Dv} (h : Bk w b tDev (dvC p d)) : Calls Tryd.prog 72 #[pT b] w (Ret fun _ w' => Bk w' b tDev (dvC p (doM d 3)) ∧ Chg (fun k => k = b) w w') := by
  refine calls_of_Wc Tryd.func72 rfl Tryd.ntmps72 rfl ?_
  (repeat' (first | refine Wl.moveE (by conv => { lhs; whnf }) ?_ | refine Wl.assignE (by conv => { lhs; whnf }) ?_ | refine Wl.nil ?_ | refine Wl.extract rfl rfl ?_ | refine Wl.guardY rfl rfl ?_ | refine Wl.guardN rfl rfl ?_ | refine Wl.guardU rfl ?_ | refine Wl.pickTE rfl (by conv => { lhs; whnf }) ?_ | refine Wl.pickFE rfl (by conv => { lhs; whnf }) ?_ | refine Wl.notB rfl ?_ | refine Wl.lenS rfl ?_ | refine Wl.lenStr rfl ?_ | refine Qseq.normal ?_ | refine Wc.seq ?_ | refine Wc.region ?_ | refine Wc.block ?_ | refine Wc.skip ?_ | refine Wc.exit ?_ | refine Wc.ret ?_ | refine Qseq.exit ?_ | refine Qseq.ret ?_ | refine Wc.scope ?_ | refine Wc.label ?_ | refine Qsc.normal ?_ | refine Qsc.exit ?_ | refine Qsc.ret ?_ | refine Qblk.normal ?_ | refine Qblk.ret ?_ | refine Qblk.hit ?_ | refine Qblk.miss rfl ?_ | refine Qloop.exit ?_ | refine Qloop.ret ?_ | refine Wc.condT rfl ?_ | refine Wc.condF rfl ?_ | refine Wl.nilP rfl ?_ | refine Wl.fieldAddr rfl rfl ?_ | refine Wl.nilF rfl ?_ | refine Wl.add rfl rfl (by omega) (by omega) ?_ | refine Wl.sub rfl rfl (by omega) (by omega) ?_ | refine Wl.mul rfl rfl (by omega) (by omega) ?_ | refine Wl.convI rfl ?_ | (refine Wl.lss rfl rfl (fun _ => ?_) (fun _ => ?_) <;> (first | (exfalso; omega) | (exfalso; contradiction) | skip)) | (refine Wl.leq rfl rfl (fun _ => ?_) (fun _ => ?_) <;> (first | (exfalso; omega) | (exfalso; contradiction) | skip)) | (refine Wl.gtr rfl rfl (fun _ => ?_) (fun _ => ?_) <;> (first | (exfalso; omega) | (exfalso; contradiction) | skip)) | (refine Wl.geq rfl rfl (fun _ => ?_) (fun _ => ?_) <;> (first | (exfalso; omega) | (exfalso; contradiction) | skip)) | (refine Wl.eql rfl rfl (fun _ => ?_) (fun _ => ?_) <;> (first | (exfalso; omega) | (exfalso; contradiction) | skip)) | (refine Wl.neq rfl rfl (fun _ => ?_) (fun _ => ?_) <;> (first | (exfalso; omega) | (exfalso; contradiction) | skip)) | (refine Wl.seql rfl rfl (fun _ => ?_) (fun _ => ?_) <;> (first | (exfalso; omega) | (exfalso; contradiction) | skip)) | (refine Wl.sneq rfl rfl (fun _ => ?_) (fun _ => ?_) <;> (first | (exfalso; omega) | (exfalso; contradiction) | skip))))
  refine Wl.store1 h rfl (by simp [dvC]) rfl rfl fun w1 b1 c1 => ?_
  (repeat' (first | refine Wl.moveE (by conv => { lhs; whnf }) ?_ | refine Wl.assignE (by conv => { lhs; whnf }) ?_ | refine Wl.nil ?_ | refine Wl.extract rfl rfl ?_ | refine Wl.guardY rfl rfl ?_ | refine Wl.guardN rfl rfl ?_ | refine Wl.guardU rfl ?_ | refine Wl.pickTE rfl (by conv => { lhs; whnf }) ?_ | refine Wl.pickFE rfl (by conv => { lhs; whnf }) ?_ | refine Wl.notB rfl ?_ | refine Wl.lenS rfl ?_ | refine Wl.lenStr rfl ?_ | refine Qseq.normal ?_ | refine Wc.seq ?_ | refine Wc.region ?_ | refine Wc.block ?_ | refine Wc.skip ?_ | refine Wc.exit ?_ | refine Wc.ret ?_ | refine Qseq.exit ?_ | refine Qseq.ret ?_ | refine Wc.scope ?_ | refine Wc.label ?_ | refine Qsc.normal ?_ | refine Qsc.exit ?_ | refine Qsc.ret ?_ | refine Qblk.normal ?_ | refine Qblk.ret ?_ | refine Qblk.hit ?_ | refine Qblk.miss rfl ?_ | refine Qloop.exit ?_ | refine Qloop.ret ?_ | refine Wc.condT rfl ?_ | refine Wc.condF rfl ?_ | refine Wl.nilP rfl ?_ | refine Wl.fieldAddr rfl rfl ?_ | refine Wl.nilF rfl ?_ | refine Wl.add rfl rfl (by omega) (by omega) ?_ | refine Wl.sub rfl rfl (by omega) (by omega) ?_ | refine Wl.mul rfl rfl (by omega) (by omega) ?_ | refine Wl.convI rfl ?_ | (refine Wl.lss rfl rfl (fun _ => ?_) (fun _ => ?_) <;> (first | (exfalso; omega) | (exfalso; contradiction) | skip)) | (refine Wl.leq rfl rfl (fun _ => ?_) (fun _ => ?_) <;> (first | (exfalso; omega) | (exfalso; contradiction) | skip)) | (refine Wl.gtr rfl rfl (fun _ => ?_) (fun _ => ?_) <;> (first | (exfalso; omega) | (exfalso; contradiction) | skip)) | (refine Wl.geq rfl rfl (fun _ => ?_) (fun _ => ?_) <;> (first | (exfalso; omega) | (exfalso; contradiction) | skip)) | (refine Wl.eql rfl rfl (fun _ => ?_) (fun _ => ?_) <;> (first | (exfalso; omega) | (exfalso; contradiction) | skip)) | (refine Wl.neq rfl rfl (fun _ => ?_) (fun _ => ?_) <;> (first | (exfalso; omega) | (exfalso; contradiction) | skip)) | (refine Wl.seql rfl rfl (fun _ => ?_) (fun _ => ?_) <;> (first | (exfalso; omega) | (exfalso; contradiction) | skip)) | (refine Wl.sneq rfl rfl (fun _ => ?_) (fun _ => ?_) <;> (first | (exfalso; omega) | (exfalso; contradiction) | skip))))
  exact Qfn.end0 rfl ⟨_, rfl, b1, c1⟩
theorem do4 {w : World} {b : Nat} {p : List UInt8} {d : Dv} (h : Bk w b tDev (dvC p d)) : Calls Tryd.prog 74 #[pT b] w (Ret fun _ w' => Bk w' b tDev (dvC p (doM d 4)) ∧ Chg (fun k => k = b) w w') := by
  refine calls_of_Wc Tryd.func74 rfl Tryd.ntmps74 rfl ?_
  (repeat' (first | refine Wl.moveE (by conv => { lhs; whnf }) ?_ | refine Wl.assignE (by conv => { lhs; whnf }) ?_ | refine Wl.nil ?_ | refine Wl.extract rfl rfl ?_ | refine Wl.guardY rfl rfl ?_ | refine Wl.guardN rfl rfl ?_ | refine Wl.guardU rfl ?_ | refine Wl.pickTE rfl (by conv => { lhs; whnf }) ?_ | refine Wl.pickFE rfl (by conv => { lhs; whnf }) ?_ | refine Wl.notB rfl ?_ | refine Wl.lenS rfl ?_ | refine Wl.lenStr rfl ?_ | refine Qseq.normal ?_ | refine Wc.seq ?_ | refine Wc.region ?_ | refine Wc.block ?_ | refine Wc.skip ?_ | refine Wc.exit ?_ | refine Wc.ret ?_ | refine Qseq.exit ?_ | refine Qseq.ret ?_ | refine Wc.scope ?_ | refine Wc.label ?_ | refine Qsc.normal ?_ | refine Qsc.exit ?_ | refine Qsc.ret ?_ | refine Qblk.normal ?_ | refine Qblk.ret ?_ | refine Qblk.hit ?_ | refine Qblk.miss rfl ?_ | refine Qloop.exit ?_ | refine Qloop.ret ?_ | refine Wc.condT rfl ?_ | refine Wc.condF rfl ?_ | refine Wl.nilP rfl ?_ | refine Wl.fieldAddr rfl rfl ?_ | refine Wl.nilF rfl ?_ | refine Wl.add rfl rfl (by omega) (by omega) ?_ | refine Wl.sub rfl rfl (by omega) (by omega) ?_ | refine Wl.mul rfl rfl (by omega) (by omega) ?_ | refine Wl.convI rfl ?_ | (refine Wl.lss rfl rfl (fun _ => ?_) (fun _ => ?_) <;> (first | (exfalso; omega) | (exfalso; contradiction) | skip)) | (refine Wl.leq rfl rfl (fun _ => ?_) (fun _ => ?_) <;> (first | (exfalso; omega) | (exfalso; contradiction) | skip)) | (refine Wl.gtr rfl rfl (fun _ => ?_) (fun _ => ?_) <;> (first | (exfalso; omega) | (exfalso; contradiction) | skip)) | (refine Wl.geq rfl rfl (fun _ => ?_) (fun _ => ?_) <;> (first | (exfalso; omega) | (exfalso; contradiction) | skip)) | (refine Wl.eql rfl rfl (fun _ => ?_) (fun _ => ?_) <;> (first | (exfalso; omega) | (exfalso; contradiction) | skip)) | (refine Wl.neq rfl rfl (fun _ => ?_) (fun _ => ?_) <;> (first | (exfalso; omega) | (exfalso; contradiction) | skip)) | (refine Wl.seql rfl rfl (fun _ => ?_) (fun _ => ?_) <;> (first | (exfalso; omega) | (exfalso; contradiction) | skip)) | (refine Wl.sneq rfl rfl (fun _ => ?_) (fun _ => ?_) <;> (first | (exfalso; omega) | (exfalso; contradiction) | skip))))
  refine Wl.store1 h rfl (by simp [dvC]) rfl rfl fun w1 b1 c1 => ?_
  (repeat' (first | refine Wl.moveE (by conv => { lhs; whnf }) ?_ | refine Wl.assignE (by conv => { lhs; whnf }) ?_ | refine Wl.nil ?_ | refine Wl.extract rfl rfl ?_ | refine Wl.guardY rfl rfl ?_ | refine Wl.guardN rfl rfl ?_ | refine Wl.guardU rfl ?_ | refine Wl.pickTE rfl (by conv => { lhs; whnf }) ?_ | refine Wl.pickFE rfl (by conv => { lhs; whnf }) ?_ | refine Wl.notB rfl ?_ | refine Wl.lenS rfl ?_ | refine Wl.lenStr rfl ?_ | refine Qseq.normal ?_ | refine Wc.seq ?_ | refine Wc.region ?_ | refine Wc.block ?_ | refine Wc.skip ?_ | refine Wc.exit ?_ | refine Wc.ret ?_ | refine Qseq.exit ?_ | refine Qseq.ret ?_ | refine Wc.scope ?_ | refine Wc.label ?_ | refine Qsc.normal ?_ | refine Qsc.exit ?_ | refine Qsc.ret ?_ | refine Qblk.normal ?_ | refine Qblk.ret ?_ | refine Qblk.hit ?_ | refine Qblk.miss rfl ?_ | refine Qloop.exit ?_ | refine Qloop.ret ?_ | refine Wc.condT rfl ?_ | refine Wc.condF rfl ?_ | refine Wl.nilP rfl ?_ | refine Wl.fieldAddr rfl rfl ?_ | refine Wl.nilF rfl ?_ | refine Wl.add rfl rfl (by omega) (by omega) ?_ | refine Wl.sub rfl rfl (by omega) (by omega) ?_ | refine Wl.mul rfl rfl (by omega) (by omega) ?_ | refine Wl.convI rfl ?_ | (refine Wl.lss rfl rfl (fun _ => ?_) (fun _ => ?_) <;> (first | (exfalso; omega) | (exfalso; contradiction) | skip)) | (refine Wl.leq rfl rfl (fun _ => ?_) (fun _ => ?_) <;> (first | (exfalso; omega) | (exfalso; contradiction) | skip)) | (refine Wl.gtr rfl rfl (fun _ => ?_) (fun _ => ?_) <;> (first | (exfalso; omega) | (exfalso; contradiction) | skip)) | (refine Wl.geq rfl rfl (fun _ => ?_) (fun _ => ?_) <;> (first | (exfalso; omega) | (exfalso; contradiction) | skip)) | (refine Wl.eql rfl rfl (fun _ => ?_) (fun _ => ?_) <;> (first | (exfalso; omega) | (exfalso; contradiction) | skip)) | (refine Wl.neq rfl rfl (fun _ => ?_) (fun _ => ?_) <;> (first | (exfalso; omega) | (exfalso; contradiction) | skip)) | (refine Wl.seql rfl rfl (fun _ => ?_) (fun _ => ?_) <;> (first | (exfalso; omega) | (exfalso; contradiction) | skip)) | (refine Wl.sneq rfl rfl (fun _ => ?_) (fun _ => ?_) <;> (first | (exfalso; omega) | (exfalso; contradiction) | skip))))
  exact Qfn.end0 rfl ⟨_, rfl, b1, c1⟩
theorem do5 {w : World} {b : Nat} {p : List UInt8} {d : Dv} (h : Bk w b tDev (dvC p d)) : Calls Tryd.prog 76 #[pT b] w (Ret fun _ w' => Bk w' b tDev (dvC p (doM d 5)) ∧ Chg (fun k => k = b) w w') := by
  refine calls_of_Wc Tryd.func76 rfl Tryd.ntmps76 rfl ?_
  (repeat' (first | refine Wl.moveE (by conv => { lhs; whnf }) ?_ | refine Wl.assignE (by conv => { lhs; whnf }) ?_ | refine Wl.nil ?_ | refine Wl.extract rfl rfl ?_ | refine Wl.guardY rfl rfl ?_ | refine Wl.guardN rfl rfl ?_ | refine Wl.guardU rfl ?_ | refine Wl.pickTE rfl (by conv => { lhs; whnf }) ?_ | refine Wl.pickFE rfl (by conv => { lhs; whnf }) ?_ | refine Wl.notB rfl ?_ | refine Wl.lenS rfl ?_ | refine Wl.lenStr rfl ?_ | refine Qseq.normal ?_ | refine Wc.seq ?_ | refine Wc.region ?_ | refine Wc.block ?_ | refine Wc.skip ?_ | refine Wc.exit ?_ | refine Wc.ret ?_ | refine Qseq.exit ?_ | refine Qseq.ret ?_ | refine Wc.scope ?_ | refine Wc.label ?_ | refine Qsc.normal ?_ | refine Qsc.exit ?_ | refine Qsc.ret ?_ | refine Qblk.normal ?_ | refine Qblk.ret ?_ | refine Qblk.hit ?_ | refine Qblk.miss rfl ?_ | refine Qloop.exit ?_ | refine Qloop.ret ?_ | refine Wc.condT rfl ?_ | refine Wc.condF rfl ?_ | refine Wl.nilP rfl ?_ | refine Wl.fieldAddr rfl rfl ?_ | refine Wl.nilF rfl ?_ | refine Wl.add rfl rfl (by omega) (by omega) ?_ | refine Wl.sub rfl rfl (by omega) (by omega) ?_ | refine Wl.mul rfl rfl (by omega) (by omega) ?_ | refine Wl.convI rfl ?_ | (refine Wl.lss rfl rfl (fun _ => ?_) (fun _ => ?_) <;> (first | (exfalso; omega) | (exfalso; contradiction) | skip)) | (refine Wl.leq rfl rfl (fun _ => ?_) (fun _ => ?_) <;> (first | (exfalso; omega) | (exfalso; contradiction) | skip)) | (refine Wl.gtr rfl rfl (fun _ => ?_) (fun _ => ?_) <;> (first | (exfalso; omega) | (exfalso; contradiction) | skip)) | (refine Wl.geq rfl rfl (fun _ => ?_) (fun _ => ?_) <;> (first | (exfalso; omega) | (exfalso; contradiction) | skip)) | (refine Wl.eql rfl rfl (fun _ => ?_) (fun _ => ?_) <;> (first | (exfalso; omega) | (exfalso; contradiction) | skip)) | (refine Wl.neq rfl rfl (fun _ => ?_) (fun _ => ?_) <;> (first | (exfalso; omega) | (exfalso; contradiction) | skip)) | (refine Wl.seql rfl rfl (fun _ => ?_) (fun _ => ?_) <;> (first | (exfalso; omega) | (exfalso; contradiction) | skip)) | (refine Wl.sneq rfl rfl (fun _ => ?_) (fun _ => ?_) <;> (first | (exfalso; omega) | (exfalso; contradiction) | skip))))
  refine Wl.store1 h rfl (by simp [dvC]) rfl rfl fun w1 b1 c1 => ?_
  (repeat' (first | refine Wl.moveE (by conv => { lhs; whnf }) ?_ | refine Wl.assignE (by conv => { lhs; whnf }) ?_ | refine Wl.nil ?_ | refine Wl.extract rfl rfl ?_ | refine Wl.guardY rfl rfl ?_ | refine Wl.guardN rfl rfl ?_ | refine Wl.guardU rfl ?_ | refine Wl.pickTE rfl (by conv => { lhs; whnf }) ?_ | refine Wl.pickFE rfl (by conv => { lhs; whnf }) ?_ | refine Wl.notB rfl ?_ | refine Wl.lenS rfl ?_ | refine Wl.lenStr rfl ?_ | refine Qseq.normal ?_ | refine Wc.seq ?_ | refine Wc.region ?_ | refine Wc.block ?_ | refine Wc.skip ?_ | refine Wc.exit ?_ | refine Wc.ret ?_ | refine Qseq.exit ?_ | refine Qseq.ret ?_ | refine Wc.scope ?_ | refine Wc.label ?_ | refine Qsc.normal ?_ | refine Qsc.exit ?_ | refine Qsc.ret ?_ | refine Qblk.normal ?_ | refine Qblk.ret ?_ | refine Qblk.hit ?_ | refine Qblk.miss rfl ?_ | refine Qloop.exit ?_ | refine Qloop.ret ?_ | refine Wc.condT rfl ?_ | refine Wc.condF rfl ?_ | refine Wl.nilP rfl ?_ | refine Wl.fieldAddr rfl rfl ?_ | refine Wl.nilF rfl ?_ | refine Wl.add rfl rfl (by omega) (by omega) ?_ | refine Wl.sub rfl rfl (by omega) (by omega) ?_ | refine Wl.mul rfl rfl (by omega) (by omega) ?_ | refine Wl.convI rfl ?_ | (refine Wl.lss rfl rfl (fun _ => ?_) (fun _ => ?_) <;> (first | (exfalso; omega) | (exfalso; contradiction) | skip)) | (refine Wl.leq rfl rfl (fun _ => ?_) (fun _ => ?_) <;> (first | (exfalso; omega) | (exfalso; contradiction) | skip)) | (refine Wl.gtr rfl rfl (fun _ => ?_) (fun _ => ?_) <;> (first | (exfalso; omega) | (exfalso; contradiction) | skip)) | (refine Wl.geq rfl rfl (fun _ => ?_) (fun _ => ?_) <;> (first | (exfalso; omega) | (exfalso; contradiction) | skip)) | (refine Wl.eql rfl rfl (fun _ => ?_) (fun _ => ?_) <;> (first | (exfalso; omega) | (exfalso; contradiction) | skip)) | (refine Wl.neq rfl rfl (fun _ => ?_) (fun _ => ?_) <;> (first | (exfalso; omega) | (exfalso; contradiction) | skip)) | (refine Wl.seql rfl rfl (fun _ => ?_) (fun _ => ?_) <;> (first | (exfalso; omega) | (exfalso; contradiction) | skip)) | (refine Wl.sneq rfl rfl (fun _ => ?_) (fun _ => ?_) <;> (first | (exfalso; omega) | (exfalso; contradiction) | skip))))
  exact Qfn.end0 rfl ⟨_, rfl, b1, c1⟩
theorem do6 {w : World} {b : Nat} {p : List UInt8} {d : Dv} (h : Bk w b tDev (dvC p d)) : Calls Tryd.prog 78 #[pT b] w (Ret fun _ w' => Bk w' b tDev (dvC p (doM d 6)) ∧ Chg (fun k => k = b) w w') := by
  refine calls_of_Wc Tryd.func78 rfl Tryd.ntmps78 rfl ?_
  (repeat' (first | refine Wl.moveE (by conv => { lhs; whnf }) ?_ | refine Wl.assignE (by conv => { lhs; whnf }) ?_ | refine Wl.nil ?_ | refine Wl.extract rfl rfl ?_ | refine Wl.guardY rfl rfl ?_ | refine Wl.guardN rfl rfl ?_ | refine Wl.guardU rfl ?_ | refine Wl.pickTE rfl (by conv => { lhs; whnf }) ?_ | refine Wl.pickFE rfl (by conv => { lhs; whnf }) ?_ | refine Wl.notB rfl ?_ | refine Wl.lenS rfl ?_ | refine Wl.lenStr rfl ?_ | refine Qseq.normal ?_ | refine Wc.seq ?_ | refine Wc.region ?_ | refine Wc.block ?_ | refine Wc.skip ?_ | refine Wc.exit ?_ | refine Wc.ret ?_ | refine Qseq.exit ?_ | refine Qseq.ret ?_ | refine Wc.scope ?_ | refine Wc.label ?_ | refine Qsc.normal ?_ | refine Qsc.exit ?_ | refine Qsc.ret ?_ | refine Qblk.normal ?_ | refine Qblk.ret ?_ | refine Qblk.hit ?_ | refine Qblk.miss rfl ?_ | refine Qloop.exit ?_ | refine Qloop.ret ?_ | refine Wc.condT rfl ?_ | refine Wc.condF rfl ?_ | refine Wl.nilP rfl ?_ | refine Wl.fieldAddr rfl rfl ?_ | refine Wl.nilF rfl ?_ | refine Wl.add rfl rfl (by omega) (by omega) ?_ | refine Wl.sub rfl rfl (by omega) (by omega) ?_ | refine Wl.mul rfl rfl (by omega) (by omega) ?_ | refine Wl.convI rfl ?_ | (refine Wl.lss rfl rfl (fun _ => ?_) (fun _ => ?_) <;> (first | (exfalso; omega) | (exfalso; contradiction) | skip)) | (refine Wl.leq rfl rfl (fun _ => ?_) (fun _ => ?_) <;> (first | (exfalso; omega) | (exfalso; contradiction) | skip)) | (refine Wl.gtr rfl rfl (fun _ => ?_) (fun _ => ?_) <;> (first | (exfalso; omega) | (exfalso; contradiction) | skip)) | (refine Wl.geq rfl rfl (fun _ => ?_) (fun _ => ?_) <;> (first | (exfalso; omega) | (exfalso; contradiction) | skip)) | (refine Wl.eql rfl rfl (fun _ => ?_) (fun _ => ?_) <;> (first | (exfalso; omega) | (exfalso; contradiction) | skip)) | (refine Wl.neq rfl rfl (fun _ => ?_) (fun _ => ?_) <;> (first | (exfalso; omega) | (exfalso; contradiction) | skip)) | (refine Wl.seql rfl rfl (fun _ => ?_) (fun _ => ?_) <;> (first | (exfalso; omega) | (exfalso; contradiction) | skip)) | (refine Wl.sneq rfl rfl (fun _ => ?_) (fun _ => ?_) <;> (first | (exfalso; omega) | (exfalso; contradiction) | skip))))
  refine Wl.store1 h rfl (by simp [dvC]) rfl rfl fun w1 b1 c1 => ?_
  (repeat' (first | refine Wl.moveE (by conv => { lhs; whnf }) ?_ | refine Wl.assignE (by conv => { lhs; whnf }) ?_ | refine Wl.nil ?_ | refine Wl.extract rfl rfl ?_ | refine Wl.guardY rfl rfl ?_ | refine Wl.guardN rfl rfl ?_ | refine Wl.guardU rfl ?_ | refine Wl.pickTE rfl (by conv => { lhs; whnf }) ?_ | refine Wl.pickFE rfl (by conv => { lhs; whnf }) ?_ | refine Wl.notB rfl ?_ | refine Wl.lenS rfl ?_ | refine Wl.lenStr rfl ?_ | refine Qseq.normal ?_ | refine Wc.seq ?_ | refine Wc.region ?_ | refine Wc.block ?_ | refine Wc.skip ?_ | refine Wc.exit ?_ | refine Wc.ret ?_ | refine Qseq.exit ?_ | refine Qseq.ret ?_ | refine Wc.scope ?_ | refine Wc.label ?_ | refine Qsc.normal ?_ | refine Qsc.exit ?_ | refine Qsc.ret ?_ | refine Qblk.normal ?_ | refine Qblk.ret ?_ | refine Qblk.hit ?_ | refine Qblk.miss rfl ?_ | refine Qloop.exit ?_ | refine Qloop.ret ?_ | refine Wc.condT rfl ?_ | refine Wc.condF rfl ?_ | refine Wl.nilP rfl ?_ | refine Wl.fieldAddr rfl rfl ?_ | refine Wl.nilF rfl ?_ | refine Wl.add rfl rfl (by omega) (by omega) ?_ | refine Wl.sub rfl rfl (by omega) (by omega) ?_ | refine Wl.mul rfl rfl (by omega) (by omega) ?_ | refine Wl.convI rfl ?_ | (refine Wl.lss rfl rfl (fun _ => ?_) (fun _ => ?_) <;> (first | (exfalso; omega) | (exfalso; contradiction) | skip)) | (refine Wl.leq rfl rfl (fun _ => ?_) (fun _ => ?_) <;> (first | (exfalso; omega) | (exfalso; contradiction) | skip)) | (refine Wl.gtr rfl rfl (fun _ => ?_) (fun _ => ?_) <;> (first | (exfalso; omega) | (exfalso; contradiction) | skip)) | (refine Wl.geq rfl rfl (fun _ => ?_) (fun _ => ?_) <;> (first | (exfalso; omega) | (exfalso; contradiction) | skip)) | (refine Wl.eql rfl rfl (fun _ => ?_) (fun _ => ?_) <;> (first | (exfalso; omega) | (exfalso; contradiction) | skip)) | (refine Wl.neq rfl rfl (fun _ => ?_) (fun _ => ?_) <;> (first | (exfalso; omega) | (exfalso; contradiction) | skip)) | (refine Wl.seql rfl rfl (fun _ => ?_) (fun _ => ?_) <;> (first | (exfalso; omega) | (exfalso; contradiction) | skip)) | (refine Wl.sneq rfl rfl (fun _ => ?_) (fun _ => ?_) <;> (first | (exfalso; omega) | (exfalso; contradiction) | skip))))
  exact Qfn.end0 rfl ⟨_, rfl, b1, c1⟩
theorem do7 {w : World} {b : Nat} {p : List UInt8} {d : Dv} (h : Bk w b tDev (dvC p d)) : Calls Tryd.prog 80 #[pT b] w (Ret fun _ w' => Bk w' b tDev (dvC p (doM d 7)) ∧ Chg (fun k => k = b) w w') := by
  refine calls_of_Wc Tryd.func80 rfl Tryd.ntmps80 rfl ?_
  (repeat' (first | refine Wl.moveE (by conv => { lhs; whnf }) ?_ | refine Wl.assignE (by conv => { lhs; whnf }) ?_ | refine Wl.nil ?_ | refine Wl.extract rfl rfl ?_ | refine Wl.guardY rfl rfl ?_ | refine Wl.guardN rfl rfl ?_ | refine Wl.guardU rfl ?_ | refine Wl.pickTE rfl (by conv => { lhs; whnf }) ?_ | refine Wl.pickFE rfl (by conv => { lhs; whnf }) ?_ | refine Wl.notB rfl ?_ | refine Wl.lenS rfl ?_ | refine Wl.lenStr rfl ?_ | refine Qseq.normal ?_ | refine Wc.seq ?_ | refine Wc.region ?_ | refine Wc.block ?_ | refine Wc.skip ?_ | refine Wc.exit ?_ | refine Wc.ret ?_ | refine Qseq.exit ?_ | refine Qseq.ret ?_ | refine Wc.scope ?_ | refine Wc.label ?_ | refine Qsc.normal ?_ | refine Qsc.exit ?_ | refine Qsc.ret ?_ | refine Qblk.normal ?_ | refine Qblk.ret ?_ | refine Qblk.hit ?_ | refine Qblk.miss rfl ?_ | refine Qloop.exit ?_ | refine Qloop.ret ?_ | refine Wc.condT rfl ?_ | refine Wc.condF rfl ?_ | refine Wl.nilP rfl ?_ | refine Wl.fieldAddr rfl rfl ?_ | refine Wl.nilF rfl ?_ | refine Wl.add rfl rfl (by omega) (by omega) ?_ | refine Wl.sub rfl rfl (by omega) (by omega) ?_ | refine Wl.mul rfl rfl (by omega) (by omega) ?_ | refine Wl.convI rfl ?_ | (refine Wl.lss rfl rfl (fun _ => ?_) (fun _ => ?_) <;> (first | (exfalso; omega) | (exfalso; contradiction) | skip)) | (refine Wl.leq rfl rfl (fun _ => ?_) (fun _ => ?_) <;> (first | (exfalso; omega) | (exfalso; contradiction) | skip)) | (refine Wl.gtr rfl rfl (fun _ => ?_) (fun _ => ?_) <;> (first | (exfalso; omega) | (exfalso; contradiction) | skip)) | (refine Wl.geq rfl rfl (fun _ => ?_) (fun _ => ?_) <;> (first | (exfalso; omega) | (exfalso; contradiction) | skip)) | (refine Wl.eql rfl rfl (fun _ => ?_) (fun _ => ?_) <;> (first | (exfalso; omega) | (exfalso; contradiction) | skip)) | (refine Wl.neq rfl rfl (fun _ => ?_) (fun _ => ?_) <;> (first | (exfalso; omega) | (exfalso; contradiction) | skip)) | (refine Wl.seql rfl rfl (fun _ => ?_) (fun _ => ?_) <;> (first | (exfalso; omega) | (exfalso; contradiction) | skip)) | (refine Wl.sneq rfl rfl (fun _ => ?_) (fun _ => ?_) <;> (first | (exfalso; omega) | (exfalso; contradiction) | skip))))
  refine Wl.store1 h rfl (by simp [dvC]) rfl rfl fun w1 b1 c1 => ?_
  (repeat' (first | refine Wl.moveE (by conv => { lhs; whnf }) ?_ | refine Wl.assignE (by conv => { lhs; whnf }) ?_ | refine Wl.nil ?_ | refine Wl.extract rfl rfl ?_ | refine Wl.guardY rfl rfl ?_ | refine Wl.guardN rfl rfl ?_ | refine Wl.guardU rfl ?_ | refine Wl.pickTE rfl (by conv => { lhs; whnf }) ?_ | refine Wl.pickFE rfl (by conv => { lhs; whnf }) ?_ | refine Wl.notB rfl ?_ | refine Wl.lenS rfl ?_ | refine Wl.lenStr rfl ?_ | refine Qseq.normal ?_ | refine Wc.seq ?_ | refine Wc.region ?_ | refine Wc.block ?_ | refine Wc.skip ?_ | refine Wc.exit ?_ | refine Wc.ret ?_ | refine Qseq.exit ?_ | refine Qseq.ret ?_ | refine Wc.scope ?_ | refine Wc.label ?_ | refine Qsc.normal ?_ | refine Qsc.exit ?_ | refine Qsc.ret ?_ | refine Qblk.normal ?_ | refine Qblk.ret ?_ | refine Qblk.hit ?_ | refine Qblk.miss rfl ?_ | refine Qloop.exit ?_ | refine Qloop.ret ?_ | refine Wc.condT rfl ?_ | refine Wc.condF rfl ?_ | refine Wl.nilP rfl ?_ | refine Wl.fieldAddr rfl rfl ?_ | refine Wl.nilF rfl ?_ | refine Wl.add rfl rfl (by omega) (by omega) ?_ | refine Wl.sub rfl rfl (by omega) (by omega) ?_ | refine Wl.mul rfl rfl (by omega) (by omega) ?_ | refine Wl.convI rfl ?_ | (refine Wl.lss rfl rfl (fun _ => ?_) (fun _ => ?_) <;> (first | (exfalso; omega) | (exfalso; contradiction) | skip)) | (refine Wl.leq rfl rfl (fun _ => ?_) (fun _ => ?_) <;> (first | (exfalso; omega) | (exfalso; contradiction) | skip)) | (refine Wl.gtr rfl rfl (fun _ => ?_) (fun _ => ?_) <;> (first | (exfalso; omega) | (exfalso; contradiction) | skip)) | (refine Wl.geq rfl rfl (fun _ => ?_) (fun _ => ?_) <;> (first | (exfalso; omega) | (exfalso; contradiction) | skip)) | (refine Wl.eql rfl rfl (fun _ => ?_) (fun _ => ?_) <;> (first | (exfalso; omega) | (exfalso; contradiction) | skip)) | (refine Wl.neq rfl rfl (fun _ => ?_) (fun _ => ?_) <;> (first | (exfalso; omega) | (exfalso; contradiction) | skip)) | (refine Wl.seql rfl rfl (fun _ => ?_) (fun _ => ?_) <;> (first | (exfalso; omega) | (exfalso; contradiction) | skip)) | (refine Wl.sneq rfl rfl (fun _ => ?_) (fun _ => ?_) <;> (first | (exfalso; omega) | (exfalso; contradiction) | skip))))
  exact Qfn.end0 rfl ⟨_, rfl, b1, c1⟩
theorem do8 {w : World} {b : Nat} {p : List UInt8} {d : Dv} (h : Bk w b tDev (dvC p d)) : Calls Tryd.prog 82 #[pT b] w (Ret fun _ w' => Bk w' b tDev (dvC p (doM d 8)) ∧ Chg (fun k => k = b) w w') := by
  refine calls_of_Wc Tryd.func82 rfl Tryd.ntmps82 rfl ?_
  (repeat' (first | refine Wl.moveE (by conv => { lhs; whnf }) ?_ | refine Wl.assignE (by conv => { lhs; whnf }) ?_ | refine Wl.nil ?_ | refine Wl.extract rfl rfl ?_ | refine Wl.guardY rfl rfl ?_ | refine Wl.guardN rfl rfl ?_ | refine Wl.guardU rfl ?_ | refine Wl.pickTE rfl (by conv => { lhs; whnf }) ?_ | refine Wl.pickFE rfl (by conv => { lhs; whnf }) ?_ | refine Wl.notB rfl ?_ | refine Wl.lenS rfl ?_ | refine Wl.lenStr rfl ?_ | refine Qseq.normal ?_ | refine Wc.seq ?_ | refine Wc.region ?_ | refine Wc.block ?_ | refine Wc.skip ?_ | refine Wc.exit ?_ | refine Wc.ret ?_ | refine Qseq.exit ?_ | refine Qseq.ret ?_ | refine Wc.scope ?_ | refine Wc.label ?_ | refine Qsc.normal ?_ | refine Qsc.exit ?_ | refine Qsc.ret ?_ | refine Qblk.normal ?_ | refine Qblk.ret ?_ | refine Qblk.hit ?_ | refine Qblk.miss rfl ?_ | refine Qloop.exit ?_ | refine Qloop.ret ?_ | refine Wc.condT rfl ?_ | refine Wc.condF rfl ?_ | refine Wl.nilP rfl ?_ | refine Wl.fieldAddr rfl rfl ?_ | refine Wl.nilF rfl ?_ | refine Wl.add rfl rfl (by omega) (by omega) ?_ | refine Wl.sub rfl rfl (by omega) (by omega) ?_ | refine Wl.mul rfl rfl (by omega) (by omega) ?_ | refine Wl.convI rfl ?_ | (refine Wl.lss rfl rfl (fun _ => ?_) (fun _ => ?_) <;> (first | (exfalso; omega) | (exfalso; contradiction) | skip)) | (refine Wl.leq rfl rfl (fun _ => ?_) (fun _ => ?_) <;> (first | (exfalso; omega) | (exfalso; contradiction) | skip)) | (refine Wl.gtr rfl rfl (fun _ => ?_) (fun _ => ?_) <;> (first | (exfalso; omega) | (exfalso; contradiction) | skip)) | (refine Wl.geq rfl rfl (fun _ => ?_) (fun _ => ?_) <;> (first | (exfalso; omega) | (exfalso; contradiction) | skip)) | (refine Wl.eql rfl rfl (fun _ => ?_) (fun _ => ?_) <;> (first | (exfalso; omega) | (exfalso; contradiction) | skip)) | (refine Wl.neq rfl rfl (fun _ => ?_) (fun _ => ?_) <;> (first | (exfalso; omega) | (exfalso; contradiction) | skip)) | (refine Wl.seql rfl rfl (fun _ => ?_) (fun _ => ?_) <;> (first | (exfalso; omega) | (exfalso; contradiction) | skip)) | (refine Wl.sneq rfl rfl (fun _ => ?_) (fun _ => ?_) <;> (first | (exfalso; omega) | (exfalso; contradiction) | skip))))
  refine Wl.store1 h rfl (by simp [dvC]) rfl rfl fun w1 b1 c1 => ?_
  (repeat' (first | refine Wl.moveE (by conv => { lhs; whnf }) ?_ | refine Wl.assignE (by conv => { lhs; whnf }) ?_ | refine Wl.nil ?_ | refine Wl.extract rfl rfl ?_ | refine Wl.guardY rfl rfl ?_ | refine Wl.guardN rfl rfl ?_ | refine Wl.guardU rfl ?_ | refine Wl.pickTE rfl (by conv => { lhs; whnf }) ?_ | refine Wl.pickFE rfl (by conv => { lhs; whnf }) ?_ | refine Wl.notB rfl ?_ | refine Wl.lenS rfl ?_ | refine Wl.lenStr rfl ?_ | refine Qseq.normal ?_ | refine Wc.seq ?_ | refine Wc.region ?_ | refine Wc.block ?_ | refine Wc.skip ?_ | refine Wc.exit ?_ | refine Wc.ret ?_ | refine Qseq.exit ?_ | refine Qseq.ret ?_ | refine Wc.scope ?_ | refine Wc.label ?_ | refine Qsc.normal ?_ | refine Qsc.exit ?_ | refine Qsc.ret ?_ | refine Qblk.normal ?_ | refine Qblk.ret ?_ | refine Qblk.hit ?_ | refine Qblk.miss rfl ?_ | refine Qloop.exit ?_ | refine Qloop.ret ?_ | refine Wc.condT rfl ?_ | refine Wc.condF rfl ?_ | refine Wl.nilP rfl ?_ | refine Wl.fieldAddr rfl rfl ?_ | refine Wl.nilF rfl ?_ | refine Wl.add rfl rfl (by omega) (by omega) ?_ | refine Wl.sub rfl rfl (by omega) (by omega) ?_ | refine Wl.mul rfl rfl (by omega) (by omega) ?_ | refine Wl.convI rfl ?_ | (refine Wl.lss rfl rfl (fun _ => ?_) (fun _ => ?_) <;> (first | (exfalso; omega) | (exfalso; contradiction) | skip)) | (refine Wl.leq rfl rfl (fun _ => ?_) (fun _ => ?_) <;> (first | (exfalso; omega) | (exfalso; contradiction) | skip)) | (refine Wl.gtr rfl rfl (fun _ => ?_) (fun _ => ?_) <;> (first | (exfalso; omega) | (exfalso; contradiction) | skip)) | (refine Wl.geq rfl rfl (fun _ => ?_) (fun _ => ?_) <;> (first | (exfalso; omega) | (exfalso; contradiction) | skip)) | (refine Wl.eql rfl rfl (fun _ => ?_) (fun _ => ?_) <;> (first | (exfalso; omega) | (exfalso; contradiction) | skip)) | (refine Wl.neq rfl rfl (fun _ => ?_) (fun _ => ?_) <;> (first | (exfalso; omega) | (exfalso; contradiction) | skip)) | (refine Wl.seql rfl rfl (fun _ => ?_) (fun _ => ?_) <;> (first | (exfalso; omega) | (exfalso; contradiction) | skip)) | (refine Wl.sneq rfl rfl (fun _ => ?_) (fun _ => ?_) <;> (first | (exfalso; omega) | (exfalso; contradiction) | skip))))
  exact Qfn.end0 rfl ⟨_, rfl, b1, c1⟩
theorem do9 {w : World} {b : Nat} {p : List UInt8} {d : Dv} (h : Bk w b tDev (dvC p d)) : Calls Tryd.prog 84 #[pT b] w (Ret fun _ w' => Bk w' b tDev (dvC p (doM d 9)) ∧ Chg (fun k => k = b) w w') := by
  refine calls_of_Wc Tryd.func84 rfl Tryd.ntmps84 rfl ?_
  (repeat' (first | refine Wl.moveE (by conv => { lhs; whnf }) ?_ | refine Wl.assignE (by conv => { lhs; whnf }) ?_ | refine Wl.nil ?_ | refine Wl.extract rfl rfl ?_ | refine Wl.guardY rfl rfl ?_ | refine Wl.guardN rfl rfl ?_ | refine Wl.guardU rfl ?_ | refine Wl.pickTE rfl (by conv => { lhs; whnf }) ?_ | refine Wl.pickFE rfl (by conv => { lhs; whnf }) ?_ | refine Wl.notB rfl ?_ | refine Wl.lenS rfl ?_ | refine Wl.lenStr rfl ?_ | refine Qseq.normal ?_ | refine Wc.seq ?_ | refine Wc.region ?_ | refine Wc.block ?_ | refine Wc.skip ?_ | refine Wc.exit ?_ | refine Wc.ret ?_ | refine Qseq.exit ?_ | refine Qseq.ret ?_ | refine Wc.scope ?_ | refine Wc.label ?_ | refine Qsc.normal ?_ | refine Qsc.exit ?_ | refine Qsc.ret ?_ | refine Qblk.normal ?_ | refine Qblk.ret ?_ | refine Qblk.hit ?_ | refine Qblk.miss rfl ?_ | refine Qloop.exit ?_ | refine Qloop.ret ?_ | refine Wc.condT rfl ?_ | refine Wc.condF rfl ?_ | refine Wl.nilP rfl ?_ | refine Wl.fieldAddr rfl rfl ?_ | refine Wl.nilF rfl ?_ | refine Wl.add rfl rfl (by omega) (by omega) ?_ | refine Wl.sub rfl rfl (by omega) (by omega) ?_ | refine Wl.mul rfl rfl (by omega) (by omega) ?_ | refine Wl.convI rfl ?_ | (refine Wl.lss rfl rfl (fun _ => ?_) (fun _ => ?_) <;> (first | (exfalso; omega) | (exfalso; contradiction) | skip)) | (refine Wl.leq rfl rfl (fun _ => ?_) (fun _ => ?_) <;> (first | (exfalso; omega) | (exfalso; contradiction) | skip)) | (refine Wl.gtr rfl rfl (fun _ => ?_) (fun _ => ?_) <;> (first | (exfalso; omega) | (exfalso; contradiction) | skip)) | (refine Wl.geq rfl rfl (fun _ => ?_) (fun _ => ?_) <;> (first | (exfalso; omega) | (exfalso; contradiction) | skip)) | (refine Wl.eql rfl rfl (fun _ => ?_) (fun _ => ?_) <;> (first | (exfalso; omega) | (exfalso; contradiction) | skip)) | (refine Wl.neq rfl rfl (fun _ => ?_) (fun _ => ?_) <;> (first | (exfalso; omega) | (exfalso; contradiction) | skip)) | (refine Wl.seql rfl rfl (fun _ => ?_) (fun _ => ?_) <;> (first | (exfalso; omega) | (exfalso; contradiction) | skip)) | (refine Wl.sneq rfl rfl (fun _ => ?_) (fun _ => ?_) <;> (first | (exfalso; omega) | (exfalso; contradiction) | skip))))
  exact Qfn.end0 rfl ⟨_, rfl, h, Chg.refl _ _⟩
theorem may_spec {w : World} {p : List UInt8} {d : Dv} {k : Nat} (h0 : 1 ≤ k) (h9 : k ≤ 9) : Calls Tryd.prog (mayF k) #[dvV p d] w (Ret fun r w' => r = .bool (mayM d k) ∧ New w w') := by
  rcases kinds9 h0 h9 with rfl | rfl | rfl | rfl | rfl | rfl | rfl | rfl | rfl
  · exact may1
  · exact may2
  · exact may3
  · exact may4
  · exact may5
  · exact may6
  · exact may7
  · exact may8
  · exact may9
theorem do_spec {w : World} {b : Nat} {p : List UInt8} {d : Dv} {k : Nat} (h0 : 1 ≤ k) (h9 : k ≤ 9) (h : Bk w b tDev (dvC p d)) : Calls Tryd.prog (doF k) #[pT b] w (Ret fun _ w' => Bk w' b tDev (dvC p (doM d k)) ∧ Chg (fun k => k = b) w w') := by
  rcases kinds9 h0 h9 with rfl | rfl | rfl | rfl | rfl | rfl | rfl | rfl | rfl
  · exact do1 h
  · exact do2 h
  · exact do3 h
  · exact do4 h
  · exact do5 h
  · exact do6 h
  · exact do7 h
  · exact do8 h
  · exact do9 h
theorem may_call {k : Nat} (h0 : 1 ≤ k) (h9 : k ≤ 9) : Callable Tryd.prog (mayF k) := by
  rcases kinds9 h0 h9 with rfl | rfl | rfl | rfl | rfl | rfl | rfl | rfl | rfl
  · exact (inferInstance : Callable Tryd.prog 67)
  · exact (inferInstance : Callable Tryd.prog 69)
  · exact (inferInstance : Callable Tryd.prog 71)
  · exact (inferInstance : Callable Tryd.prog 73)
  · exact (inferInstance : Callable Tryd.prog 75)
  · exact (inferInstance : Callable Tryd.prog 77)
  · exact (inferInstance : Callable Tryd.prog 79)
  · exact (inferInstance : Callable Tryd.prog 81)
  · exact (inferInstance : Callable Tryd.prog 83)
theorem do_call {k : Nat} (h0 : 1 ≤ k) (h9 : k ≤ 9) : Callable Tryd.prog (doF k) := by
  rcases kinds9 h0 h9 with rfl | rfl | rfl | rfl | rfl | rfl | rfl | rfl | rfl
  · exact (inferInstance : Callable Tryd.prog 68)
  · exact (inferInstance : Callable Tryd.prog 70)
  · exact (inferInstance : Callable Tryd.prog 72)
  · exact (inferInstance : Callable Tryd.prog 74)
  · exact (inferInstance : Callable Tryd.prog 76)
  · exact (inferInstance : Callable Tryd.prog 78)
  · exact (inferInstance : Callable Tryd.prog 80)
  · exact (inferInstance : Callable Tryd.prog 82)
  · exact ⟨⟨_, Tryd.func84, by kernel_rfl, by kernel_rfl⟩⟩
theorem kB : Maps.Keyed Tryd.prog 5 := Maps.int_keyed Tryd.underlying5
theorem keyB {i : Nat} (h : i < 256) : keyOf Tryd.prog 5 (.int .u8 i) = some (.int .u8 i) :=
  Maps.keyOf_int_mk Tryd.underlying5 (by simp [Lit.wf, IntKind.min, IntKind.max, IntKind.signed, IntKind.bits]; omega)
theorem rule_in {k : Nat} {r : Value} (h : ((.int .u8 (k : Nat) : Value), r) ∈ ruleL) : 1 ≤ k ∧ k ≤ 9 ∧ r = ruleV k := by
  unfold ruleL at h
  obtain ⟨j, hj, e⟩ := List.mem_map.1 h
  obtain ⟨e1, e2⟩ := Prod.mk.inj e
  injection e1 with _ e3
  have : j = k := by omega
  subst this
  simp at hj
  exact ⟨by omega, by omega, e2.symm⟩
theorem rule_out {k : Nat} (h : ∀ p ∈ ruleL, p.1 ≠ (.int .u8 (k : Nat) : Value)) : k = 0 ∨ 10 ≤ k := by
  rcases Nat.eq_zero_or_pos k with h0 | h0
  · exact .inl h0
  · rcases Nat.lt_or_ge k 10 with h9 | h9
    · exfalso
      refine h (.int .u8 k, ruleV k) ?_ rfl
      rcases kinds9 h0 (by omega) with rfl | rfl | rfl | rfl | rfl | rfl | rfl | rfl | rfl <;> simp [ruleL]
    · exact .inr h9
set_option maxHeartbeats 1000000 in
theorem rules_spec {w : World} : Calls Tryd.prog 47 #[] w (Ret fun r w' => ∃ b, r = .map (some b) ∧ MapL Tryd.prog 5 w' b ruleL ∧ w.heap.size ≤ b ∧ New w w') := by
  refine calls_of_Wc Tryd.func47 rfl Tryd.ntmps47 rfl ?_
  (repeat' (first | refine Wl.moveE (by conv => { lhs; whnf }) ?_ | refine Wl.assignE (by conv => { lhs; whnf }) ?_ | refine Wl.nil ?_ | refine Wl.extract rfl rfl ?_ | refine Wl.guardY rfl rfl ?_ | refine Wl.guardN rfl rfl ?_ | refine Wl.guardU rfl ?_ | refine Wl.pickTE rfl (by conv => { lhs; whnf }) ?_ | refine Wl.pickFE rfl (by conv => { lhs; whnf }) ?_ | refine Wl.notB rfl ?_ | refine Wl.lenS rfl ?_ | refine Wl.lenStr rfl ?_ | refine Qseq.normal ?_ | refine Wc.seq ?_ | refine Wc.region ?_ | refine Wc.block ?_ | refine Wc.skip ?_ | refine Wc.exit ?_ | refine Wc.ret ?_ | refine Qseq.exit ?_ | refine Qseq.ret ?_ | refine Wc.scope ?_ | refine Wc.label ?_ | refine Qsc.normal ?_ | refine Qsc.exit ?_ | refine Qsc.ret ?_ | refine Qblk.normal ?_ | refine Qblk.ret ?_ | refine Qblk.hit ?_ | refine Qblk.miss rfl ?_ | refine Qloop.exit ?_ | refine Qloop.ret ?_ | refine Wc.condT rfl ?_ | refine Wc.condF rfl ?_ | refine Wl.nilP rfl ?_ | refine Wl.fieldAddr rfl rfl ?_ | refine Wl.nilF rfl ?_ | refine Wl.add rfl rfl (by omega) (by omega) ?_ | refine Wl.sub rfl rfl (by omega) (by omega) ?_ | refine Wl.mul rfl rfl (by omega) (by omega) ?_ | refine Wl.convI rfl ?_ | (refine Wl.lss rfl rfl (fun _ => ?_) (fun _ => ?_) <;> (first | (exfalso; omega) | (exfalso; contradiction) | skip)) | (refine Wl.leq rfl rfl (fun _ => ?_) (fun _ => ?_) <;> (first | (exfalso; omega) | (exfalso; contradiction) | skip)) | (refine Wl.gtr rfl rfl (fun _ => ?_) (fun _ => ?_) <;> (first | (exfalso; omega) | (exfalso; contradiction) | skip)) | (refine Wl.geq rfl rfl (fun _ => ?_) (fun _ => ?_) <;> (first | (exfalso; omega) | (exfalso; contradiction) | skip)) | (refine Wl.eql rfl rfl (fun _ => ?_) (fun _ => ?_) <;> (first | (exfalso; omega) | (exfalso; contradiction) | skip)) | (refine Wl.neq rfl rfl (fun _ => ?_) (fun _ => ?_) <;> (first | (exfalso; omega) | (exfalso; contradiction) | skip)) | (refine Wl.seql rfl rfl (fun _ => ?_) (fun _ => ?_) <;> (first | (exfalso; omega) | (exfalso; contradiction) | skip)) | (refine Wl.sneq rfl rfl (fun _ => ?_) (fun _ => ?_) <;> (first | (exfalso; omega) | (exfalso; contradiction) | skip))))
  refine Wl.makeMap (k := 5) fun w0 m0 n0 s0 => ?_
  have z0 := n0.size
  refine Wl.buildG (u := ruleV 1) rfl (by kernel_rfl) ?_
  refine Wk.Wl.mapInsP (key := .int .u8 (1 : Nat)) (u := ruleV 1) kB m0 (keyB (by decide)) (by simp) rfl rfl rfl fun w1 m1 c1 s1 => ?_
  refine Wl.buildG (u := ruleV 2) rfl (by kernel_rfl) ?_
  refine Wk.Wl.mapInsP (key := .int .u8 (2 : Nat)) (u := ruleV 2) kB m1 (keyB (by decide)) (by simp) rfl rfl rfl fun w2 m2 c2 s2 => ?_
  refine Wl.buildG (u := ruleV 3) rfl (by kernel_rfl) ?_
  refine Wk.Wl.mapInsP (key := .int .u8 (3 : Nat)) (u := ruleV 3) kB m2 (keyB (by decide)) (by simp) rfl rfl rfl fun w3 m3 c3 s3 => ?_
  refine Wl.buildG (u := ruleV 4) rfl (by kernel_rfl) ?_
  refine Wk.Wl.mapInsP (key := .int .u8 (4 : Nat)) (u := ruleV 4) kB m3 (keyB (by decide)) (by simp) rfl rfl rfl fun w4 m4 c4 s4 => ?_
  refine Wl.buildG (u := ruleV 5) rfl (by kernel_rfl) ?_
  refine Wk.Wl.mapInsP (key := .int .u8 (5 : Nat)) (u := ruleV 5) kB m4 (keyB (by decide)) (by simp) rfl rfl rfl fun w5 m5 c5 s5 => ?_
  refine Wl.buildG (u := ruleV 6) rfl (by kernel_rfl) ?_
  refine Wk.Wl.mapInsP (key := .int .u8 (6 : Nat)) (u := ruleV 6) kB m5 (keyB (by decide)) (by simp) rfl rfl rfl fun w6 m6 c6 s6 => ?_
  refine Wl.buildG (u := ruleV 7) rfl (by kernel_rfl) ?_
  refine Wk.Wl.mapInsP (key := .int .u8 (7 : Nat)) (u := ruleV 7) kB m6 (keyB (by decide)) (by simp) rfl rfl rfl fun w7 m7 c7 s7 => ?_
  refine Wl.buildG (u := ruleV 8) rfl (by kernel_rfl) ?_
  refine Wk.Wl.mapInsP (key := .int .u8 (8 : Nat)) (u := ruleV 8) kB m7 (keyB (by decide)) (by simp) rfl rfl rfl fun w8 m8 c8 s8 => ?_
  refine Wl.buildG (u := ruleV 9) rfl (by kernel_rfl) ?_
  refine Wk.Wl.mapInsP (key := .int .u8 (9 : Nat)) (u := ruleV 9) kB m8 (keyB (by decide)) (by simp) rfl rfl rfl fun w9 m9 c9 s9 => ?_
  have n9 : New w w9 := by
    refine Chg.trans n0 (M' := fun j => j = w.heap.size) ?_ fun k hk e => by omega
    refine Chg.trans c1 ?_ (fun _ _ e => e)
    refine Chg.trans c2 ?_ (fun _ _ e => e)
    refine Chg.trans c3 ?_ (fun _ _ e => e)
    refine Chg.trans c4 ?_ (fun _ _ e => e)
    refine Chg.trans c5 ?_ (fun _ _ e => e)
    refine Chg.trans c6 ?_ (fun _ _ e => e)
    refine Chg.trans c7 ?_ (fun _ _ e => e)
    exact Chg.trans c8 c9 (fun _ _ e => e)
  (repeat' (first | refine Wl.moveE (by conv => { lhs; whnf }) ?_ | refine Wl.assignE (by conv => { lhs; whnf }) ?_ | refine Wl.nil ?_ | refine Wl.extract rfl rfl ?_ | refine Wl.guardY rfl rfl ?_ | refine Wl.guardN rfl rfl ?_ | refine Wl.guardU rfl ?_ | refine Wl.pickTE rfl (by conv => { lhs; whnf }) ?_ | refine Wl.pickFE rfl (by conv => { lhs; whnf }) ?_ | refine Wl.notB rfl ?_ | refine Wl.lenS rfl ?_ | refine Wl.lenStr rfl ?_ | refine Qseq.normal ?_ | refine Wc.seq ?_ | refine Wc.region ?_ | refine Wc.block ?_ | refine Wc.skip ?_ | refine Wc.exit ?_ | refine Wc.ret ?_ | refine Qseq.exit ?_ | refine Qseq.ret ?_ | refine Wc.scope ?_ | refine Wc.label ?_ | refine Qsc.normal ?_ | refine Qsc.exit ?_ | refine Qsc.ret ?_ | refine Qblk.normal ?_ | refine Qblk.ret ?_ | refine Qblk.hit ?_ | refine Qblk.miss rfl ?_ | refine Qloop.exit ?_ | refine Qloop.ret ?_ | refine Wc.condT rfl ?_ | refine Wc.condF rfl ?_ | refine Wl.nilP rfl ?_ | refine Wl.fieldAddr rfl rfl ?_ | refine Wl.nilF rfl ?_ | refine Wl.add rfl rfl (by omega) (by omega) ?_ | refine Wl.sub rfl rfl (by omega) (by omega) ?_ | refine Wl.mul rfl rfl (by omega) (by omega) ?_ | refine Wl.convI rfl ?_ | (refine Wl.lss rfl rfl (fun _ => ?_) (fun _ => ?_) <;> (first | (exfalso; omega) | (exfalso; contradiction) | skip)) | (refine Wl.leq rfl rfl (fun _ => ?_) (fun _ => ?_) <;> (first | (exfalso; omega) | (exfalso; contradiction) | skip)) | (refine Wl.gtr rfl rfl (fun _ => ?_) (fun _ => ?_) <;> (first | (exfalso; omega) | (exfalso; contradiction) | skip)) | (refine Wl.geq rfl rfl (fun _ => ?_) (fun _ => ?_) <;> (first | (exfalso; omega) | (exfalso; contradiction) | skip)) | (refine Wl.eql rfl rfl (fun _ => ?_) (fun _ => ?_) <;> (first | (exfalso; omega) | (exfalso; contradiction) | skip)) | (refine Wl.neq rfl rfl (fun _ => ?_) (fun _ => ?_) <;> (first | (exfalso; omega) | (exfalso; contradiction) | skip)) | (refine Wl.seql rfl rfl (fun _ => ?_) (fun _ => ?_) <;> (first | (exfalso; omega) | (exfalso; contradiction) | skip)) | (refine Wl.sneq rfl rfl (fun _ => ?_) (fun _ => ?_) <;> (first | (exfalso; omega) | (exfalso; contradiction) | skip))))
  exact Qfn.ret1 rfl rfl ⟨_, rfl, w.heap.size, rfl, m9, Nat.le_refl _, n9⟩
end Go.Proofs.YtjaendlcijmifaaDoor

namespace Go.Proofs
open Go.Shelf
def Tryd.sortD_ren : Go.Shelf.Ren := ⟨fun | 6 => 48 | 15 => 86 | 14 => 85 | 28 => 105 | 29 => 106 | 20 => 97 | 21 => 98 | 22 => 99 | 23 => 100 | 24 => 101 | 25 => 102 | 26 => 103 | 27 => 104 | 46 => 121 | 47 => 122 | 48 => 123 | 49 => 124 | 50 => 125 | 57 => 138 | n => n, fun | 22 => 92 | 24 => 98 | 25 => 101 | 3 => 3 | 39 => 124 | 0 => 0 | 53 => 140 | 55 => 27 | 4 => 4 | 46 => 134 | 45 => 133 | 50 => 72 | 5 => 5 | 9 => 9 | 66 => 153 | 70 => 156 | 76 => 170 | 77 => 171 | n => n, fun | n => n⟩
theorem Tryd.sortD : Go.Proofs.SlLaysF.n6 Tryd.prog Tryd.sortD_ren := {
  mixed := by kernel_rfl
  f6 := ⟨Tryd.f48.name, by decide, Tryd.func48.trans (congrArg some (by kernel_rfl))⟩
  f14 := ⟨Tryd.f85.name, by decide, Tryd.func85.trans (congrArg some (by kernel_rfl))⟩
  f15 := Tryd.func86.trans (congrArg some (by kernel_rfl))
  f20 := ⟨Tryd.f97.name, by decide, Tryd.func97.trans (congrArg some (by kernel_rfl))⟩
  f21 := ⟨Tryd.f98.name, by decide, Tryd.func98.trans (congrArg some (by kernel_rfl))⟩
  f22 := ⟨Tryd.f99.name, by decide, Tryd.func99.trans (congrArg some (by kernel_rfl))⟩
  f23 := ⟨Tryd.f100.name, by decide, Tryd.func100.trans (congrArg some (by kernel_rfl))⟩
  f24 := ⟨Tryd.f101.name, by decide, Tryd.func101.trans (congrArg some (by kernel_rfl))⟩
  f25 := ⟨Tryd.f102.name, by decide, Tryd.func102.trans (congrArg some (by kernel_rfl))⟩
  f26 := ⟨Tryd.f103.name, by decide, Tryd.func103.trans (congrArg some (by kernel_rfl))⟩
  f27 := ⟨Tryd.f104.name, by decide, Tryd.func104.trans (congrArg some (by kernel_rfl))⟩
  f28 := Tryd.func105.trans (congrArg some (by kernel_rfl))
  f29 := Tryd.func106.trans (congrArg some (by kernel_rfl))
  f46 := ⟨Tryd.f121.name, by decide, Tryd.func121.trans (congrArg some (by kernel_rfl))⟩
  f47 := Tryd.func122.trans (congrArg some (by kernel_rfl))
  f48 := Tryd.func123.trans (congrArg some (by kernel_rfl))
  f49 := ⟨Tryd.f124.name, by decide, Tryd.func124.trans (congrArg some (by kernel_rfl))⟩
  f50 := ⟨Tryd.f125.name, by decide, Tryd.func125.trans (congrArg some (by kernel_rfl))⟩
  f57 := ⟨Tryd.f138.name, by decide, Tryd.func138.trans (congrArg some (by kernel_rfl))⟩
  t0 := Tryd.underlying0
  a0 := Tryd.isAgg0
  z0 := Tryd.sizeOf0
  v0 := Tryd.zeroValue0
  t3 := Tryd.underlying3
  a3 := Tryd.isAgg3
  z3 := Tryd.sizeOf3
  v3 := Tryd.zeroValue3
  t4 := Tryd.underlying4
  a4 := Tryd.isAgg4
  z4 := Tryd.sizeOf4
  v4 := Tryd.zeroValue4
  t5 := Tryd.underlying5
  a5 := Tryd.isAgg5
  z5 := Tryd.sizeOf5
  v5 := Tryd.zeroValue5
  t9 := Tryd.underlying9
  a9 := Tryd.isAgg9
  z9 := Tryd.sizeOf9
  v9 := Tryd.zeroValue9
  t22 := Tryd.underlying92
  a22 := Tryd.isAgg92
  z22 := Tryd.sizeOf92
  v22 := Tryd.zeroValue92
  a24 := Tryd.isAgg98
  z24 := Tryd.sizeOf98
  t25 := Tryd.underlying101
  a25 := Tryd.isAgg101
  z25 := Tryd.sizeOf101
  v25 := Tryd.zeroValue101
  t39 := Tryd.underlying124
  a39 := Tryd.isAgg124
  z39 := Tryd.sizeOf124
  v39 := Tryd.zeroValue124
  t45 := Tryd.underlying133
  a45 := Tryd.isAgg133
  z45 := Tryd.sizeOf133
  v45 := Tryd.zeroValue133
  t46 := Tryd.underlying134
  a46 := Tryd.isAgg134
  z46 := Tryd.sizeOf134
  v46 := Tryd.zeroValue134
  t50 := Tryd.underlying72
  a50 := Tryd.isAgg72
  z50 := Tryd.sizeOf72
  v50 := Tryd.zeroValue72
  t53 := Tryd.underlying140
  a53 := Tryd.isAgg140
  z53 := Tryd.sizeOf140
  v53 := Tryd.zeroValue140
  t55 := Tryd.underlying27
  a55 := Tryd.isAgg27
  z55 := Tryd.sizeOf27
  v55 := Tryd.zeroValue27
  t66 := Tryd.underlying153
  a66 := Tryd.isAgg153
  z66 := Tryd.sizeOf153
  v66 := Tryd.zeroValue153
  t70 := Tryd.underlying156
  a70 := Tryd.isAgg156
  z70 := Tryd.sizeOf156
  v70 := Tryd.zeroValue156
  t76 := Tryd.underlying170
  a76 := Tryd.isAgg170
  z76 := Tryd.sizeOf170
  v76 := Tryd.zeroValue170
  t77 := Tryd.underlying171
  a77 := Tryd.isAgg171
  z77 := Tryd.sizeOf171
  v77 := Tryd.zeroValue171 }
end Go.Proofs

namespace Go.Proofs.YtjaendlcijmifaaDoor
open Go Wk
open Go.RowKit (Below)
open Go.Sort (SWO Holds)
attribute [local irreducible] Go.Calls

section
variable {P : Program} {n : Nat} {ds : List Deferred} {Q : Po} {F : Fr} {w : World} {ops rest : List Oper} {d : Nat} {ty t t' : TypeId} {pos : String} {aft : Array Edge} {x y : Operand} {a b : List UInt8}
theorem Wk.Wl.slss (hx : ev n F x = vs a) (hy : ev n F y = vs b) (ht : a < b → Wl P n ds Q ops rest (upd F d (.bool true)) w) (hf : ¬ a < b → Wl P n ds Q ops rest (upd F d (.bool false)) w) :
    Wl P n ds Q ops (⟨some d, .binOp .lss t x y t', ty, pos, aft, none⟩ :: rest) F w := by
  by_cases h : a < b
  · exact Wl.val (by simp only [execOp, hx, hy, Sem.run_bind, run_eqGuard_str, Result.andThen_ok, binOp_string_lss, ByteArray.toList_mk, Sem.run_pure, bytesLess_eq, decide_eq_true h]) (ht h)
  · exact Wl.val (by simp only [execOp, hx, hy, Sem.run_bind, run_eqGuard_str, Result.andThen_ok, binOp_string_lss, ByteArray.toList_mk, Sem.run_pure, bytesLess_eq, decide_eq_false h]) (hf h)
theorem Wk.Wl.sgtr (hx : ev n F x = vs a) (hy : ev n F y = vs b) (ht : b < a → Wl P n ds Q ops rest (upd F d (.bool true)) w) (hf : ¬ b < a → Wl P n ds Q ops rest (upd F d (.bool false)) w) :
    Wl P n ds Q ops (⟨some d, .binOp .gtr t x y t', ty, pos, aft, none⟩ :: rest) F w := by
  have e : (!(decide (a < b) || a == b)) = decide (b < a) := by
    by_cases h : a < b
    · rw [decide_eq_true h, decide_eq_false (List.lt_asymm h)]; rfl
    · by_cases h2 : a = b
      · subst h2; rw [decide_eq_false h]; simp
      · rw [decide_eq_false h, decide_eq_true (lt_of_not h h2), beq_eq_false_iff_ne.2 h2]; rfl
  have r : (execOp (ev n F) ⟨some d, .binOp .gtr t x y t', ty, pos, aft, none⟩).run P w = .ok (.value (.bool (decide (b < a)))) w := by
    simp only [execOp, hx, hy, Sem.run_bind, run_eqGuard_str, Result.andThen_ok, binOp_string_gtr, ByteArray.toList_mk, Sem.run_pure, bytesLess_eq, e]
  by_cases h : b < a
  · rw [decide_eq_true h] at r; exact Wl.val r (ht h)
  · rw [decide_eq_false h] at r; exact Wl.val r (hf h)
end
/-- cmp.Compare of texts. -/
def cmpS (a b : List UInt8) : Int := if a < b then -1 else if b < a then 1 else 0
theorem cmpS_lt (a b : List UInt8) : decide (cmpS a b < 0) = decide (a < b) := by
  unfold cmpS; split
  · rename_i h; simp [h]
  · rename_i h; split <;> simp [h]
theorem isNaN_spec {w : World} {a : List UInt8} : Calls Tryd.prog 87 #[vs a] w (Ret fun r w' => r = .bool false ∧ w = w') := by
  refine calls_of_Wc Tryd.func87 rfl Tryd.ntmps87 rfl ?_
  (repeat' (first | refine Wl.moveE (by conv => { lhs; whnf }) ?_ | refine Wl.assignE (by conv => { lhs; whnf }) ?_ | refine Wl.nil ?_ | refine Wl.extract rfl rfl ?_ | refine Wl.guardY rfl rfl ?_ | refine Wl.guardN rfl rfl ?_ | refine Wl.guardU rfl ?_ | refine Wl.pickTE rfl (by conv => { lhs; whnf }) ?_ | refine Wl.pickFE rfl (by conv => { lhs; whnf }) ?_ | refine Wl.notB rfl ?_ | refine Wl.lenS rfl ?_ | refine Wl.lenStr rfl ?_ | refine Qseq.normal ?_ | refine Wc.seq ?_ | refine Wc.region ?_ | refine Wc.block ?_ | refine Wc.skip ?_ | refine Wc.exit ?_ | refine Wc.ret ?_ | refine Qseq.exit ?_ | refine Qseq.ret ?_ | refine Wc.scope ?_ | refine Wc.label ?_ | refine Qsc.normal ?_ | refine Qsc.exit ?_ | refine Qsc.ret ?_ | refine Qblk.normal ?_ | refine Qblk.ret ?_ | refine Qblk.hit ?_ | refine Qblk.miss rfl ?_ | refine Qloop.exit ?_ | refine Qloop.ret ?_ | refine Wc.condT rfl ?_ | refine Wc.condF rfl ?_ | refine Wl.nilP rfl ?_ | refine Wl.fieldAddr rfl rfl ?_ | refine Wl.nilF rfl ?_ | refine Wl.add rfl rfl (by omega) (by omega) ?_ | refine Wl.sub rfl rfl (by omega) (by omega) ?_ | refine Wl.mul rfl rfl (by omega) (by omega) ?_ | refine Wl.convI rfl ?_ | (refine Wl.lss rfl rfl (fun _ => ?_) (fun _ => ?_) <;> (first | (exfalso; omega) | (exfalso; contradiction) | skip)) | (refine Wl.leq rfl rfl (fun _ => ?_) (fun _ => ?_) <;> (first | (exfalso; omega) | (exfalso; contradiction) | skip)) | (refine Wl.gtr rfl rfl (fun _ => ?_) (fun _ => ?_) <;> (first | (exfalso; omega) | (exfalso; contradiction) | skip)) | (refine Wl.geq rfl rfl (fun _ => ?_) (fun _ => ?_) <;> (first | (exfalso; omega) | (exfalso; contradiction) | skip)) | (refine Wl.eql rfl rfl (fun _ => ?_) (fun _ => ?_) <;> (first | (exfalso; omega) | (exfalso; contradiction) | skip)) | (refine Wl.neq rfl rfl (fun _ => ?_) (fun _ => ?_) <;> (first | (exfalso; omega) | (exfalso; contradiction) | skip)) | (refine Wl.seql rfl rfl (fun _ => ?_) (fun _ => ?_) <;> (first | (exfalso; omega) | (exfalso; contradiction) | skip)) | (refine Wl.sneq rfl rfl (fun _ => ?_) (fun _ => ?_) <;> (first | (exfalso; omega) | (exfalso; contradiction) | skip))))
  all_goals first | contradiction | exact Qfn.ret1 rfl rfl ⟨_, rfl, rfl, rfl⟩
theorem Compare_spec {w : World} {a b : List UInt8} : Calls Tryd.prog 50 #[vs a, vs b] w (Ret fun r w' => r = vi (cmpS a b) ∧ w = w') := by
  refine calls_of_Wc Tryd.func50 rfl Tryd.ntmps50 rfl ?_
  (repeat' (first | refine Wl.moveE (by conv => { lhs; whnf }) ?_ | refine Wl.assignE (by conv => { lhs; whnf }) ?_ | refine Wl.nil ?_ | refine Wl.extract rfl rfl ?_ | refine Wl.guardY rfl rfl ?_ | refine Wl.guardN rfl rfl ?_ | refine Wl.guardU rfl ?_ | refine Wl.pickTE rfl (by conv => { lhs; whnf }) ?_ | refine Wl.pickFE rfl (by conv => { lhs; whnf }) ?_ | refine Wl.notB rfl ?_ | refine Wl.lenS rfl ?_ | refine Wl.lenStr rfl ?_ | refine Qseq.normal ?_ | refine Wc.seq ?_ | refine Wc.region ?_ | refine Wc.block ?_ | refine Wc.skip ?_ | refine Wc.exit ?_ | refine Wc.ret ?_ | refine Qseq.exit ?_ | refine Qseq.ret ?_ | refine Wc.scope ?_ | refine Wc.label ?_ | refine Qsc.normal ?_ | refine Qsc.exit ?_ | refine Qsc.ret ?_ | refine Qblk.normal ?_ | refine Qblk.ret ?_ | refine Qblk.hit ?_ | refine Qblk.miss rfl ?_ | refine Qloop.exit ?_ | refine Qloop.ret ?_ | refine Wc.condT rfl ?_ | refine Wc.condF rfl ?_ | refine Wl.nilP rfl ?_ | refine Wl.fieldAddr rfl rfl ?_ | refine Wl.nilF rfl ?_ | refine Wl.add rfl rfl (by omega) (by omega) ?_ | refine Wl.sub rfl rfl (by omega) (by omega) ?_ | refine Wl.mul rfl rfl (by omega) (by omega) ?_ | refine Wl.convI rfl ?_ | (refine Wl.lss rfl rfl (fun _ => ?_) (fun _ => ?_) <;> (first | (exfalso; omega) | (exfalso; contradiction) | skip)) | (refine Wl.leq rfl rfl (fun _ => ?_) (fun _ => ?_) <;> (first | (exfalso; omega) | (exfalso; contradiction) | skip)) | (refine Wl.gtr rfl rfl (fun _ => ?_) (fun _ => ?_) <;> (first | (exfalso; omega) | (exfalso; contradiction) | skip)) | (refine Wl.geq rfl rfl (fun _ => ?_) (fun _ => ?_) <;> (first | (exfalso; omega) | (exfalso; contradiction) | skip)) | (refine Wl.eql rfl rfl (fun _ => ?_) (fun _ => ?_) <;> (first | (exfalso; omega) | (exfalso; contradiction) | skip)) | (refine Wl.neq rfl rfl (fun _ => ?_) (fun _ => ?_) <;> (first | (exfalso; omega) | (exfalso; contradiction) | skip)) | (refine Wl.seql rfl rfl (fun _ => ?_) (fun _ => ?_) <;> (first | (exfalso; omega) | (exfalso; contradiction) | skip)) | (refine Wl.sneq rfl rfl (fun _ => ?_) (fun _ => ?_) <;> (first | (exfalso; omega) | (exfalso; contradiction) | skip))))
  refine Wl.call isNaN_spec rfl ?_
  rintro _ _ ⟨rfl, rfl⟩
  (repeat' (first | refine Wl.moveE (by conv => { lhs; whnf }) ?_ | refine Wl.assignE (by conv => { lhs; whnf }) ?_ | refine Wl.nil ?_ | refine Wl.extract rfl rfl ?_ | refine Wl.guardY rfl rfl ?_ | refine Wl.guardN rfl rfl ?_ | refine Wl.guardU rfl ?_ | refine Wl.pickTE rfl (by conv => { lhs; whnf }) ?_ | refine Wl.pickFE rfl (by conv => { lhs; whnf }) ?_ | refine Wl.notB rfl ?_ | refine Wl.lenS rfl ?_ | refine Wl.lenStr rfl ?_ | refine Qseq.normal ?_ | refine Wc.seq ?_ | refine Wc.region ?_ | refine Wc.block ?_ | refine Wc.skip ?_ | refine Wc.exit ?_ | refine Wc.ret ?_ | refine Qseq.exit ?_ | refine Qseq.ret ?_ | refine Wc.scope ?_ | refine Wc.label ?_ | refine Qsc.normal ?_ | refine Qsc.exit ?_ | refine Qsc.ret ?_ | refine Qblk.normal ?_ | refine Qblk.ret ?_ | refine Qblk.hit ?_ | refine Qblk.miss rfl ?_ | refine Qloop.exit ?_ | refine Qloop.ret ?_ | refine Wc.condT rfl ?_ | refine Wc.condF rfl ?_ | refine Wl.nilP rfl ?_ | refine Wl.fieldAddr rfl rfl ?_ | refine Wl.nilF rfl ?_ | refine Wl.add rfl rfl (by omega) (by omega) ?_ | refine Wl.sub rfl rfl (by omega) (by omega) ?_ | refine Wl.mul rfl rfl (by omega) (by omega) ?_ | refine Wl.convI rfl ?_ | (refine Wl.lss rfl rfl (fun _ => ?_) (fun _ => ?_) <;> (first | (exfalso; omega) | (exfalso; contradiction) | skip)) | (refine Wl.leq rfl rfl (fun _ => ?_) (fun _ => ?_) <;> (first | (exfalso; omega) | (exfalso; contradiction) | skip)) | (refine Wl.gtr rfl rfl (fun _ => ?_) (fun _ => ?_) <;> (first | (exfalso; omega) | (exfalso; contradiction) | skip)) | (refine Wl.geq rfl rfl (fun _ => ?_) (fun _ => ?_) <;> (first | (exfalso; omega) | (exfalso; contradiction) | skip)) | (refine Wl.eql rfl rfl (fun _ => ?_) (fun _ => ?_) <;> (first | (exfalso; omega) | (exfalso; contradiction) | skip)) | (refine Wl.neq rfl rfl (fun _ => ?_) (fun _ => ?_) <;> (first | (exfalso; omega) | (exfalso; contradiction) | skip)) | (refine Wl.seql rfl rfl (fun _ => ?_) (fun _ => ?_) <;> (first | (exfalso; omega) | (exfalso; contradiction) | skip)) | (refine Wl.sneq rfl rfl (fun _ => ?_) (fun _ => ?_) <;> (first | (exfalso; omega) | (exfalso; contradiction) | skip))))
  refine Wl.call isNaN_spec rfl ?_
  rintro _ _ ⟨rfl, rfl⟩
  (repeat' (first | refine Wl.moveE (by conv => { lhs; whnf }) ?_ | refine Wl.assignE (by conv => { lhs; whnf }) ?_ | refine Wl.nil ?_ | refine Wl.extract rfl rfl ?_ | refine Wl.guardY rfl rfl ?_ | refine Wl.guardN rfl rfl ?_ | refine Wl.guardU rfl ?_ | refine Wl.pickTE rfl (by conv => { lhs; whnf }) ?_ | refine Wl.pickFE rfl (by conv => { lhs; whnf }) ?_ | refine Wl.notB rfl ?_ | refine Wl.lenS rfl ?_ | refine Wl.lenStr rfl ?_ | refine Qseq.normal ?_ | refine Wc.seq ?_ | refine Wc.region ?_ | refine Wc.block ?_ | refine Wc.skip ?_ | refine Wc.exit ?_ | refine Wc.ret ?_ | refine Qseq.exit ?_ | refine Qseq.ret ?_ | refine Wc.scope ?_ | refine Wc.label ?_ | refine Qsc.normal ?_ | refine Qsc.exit ?_ | refine Qsc.ret ?_ | refine Qblk.normal ?_ | refine Qblk.ret ?_ | refine Qblk.hit ?_ | refine Qblk.miss rfl ?_ | refine Qloop.exit ?_ | refine Qloop.ret ?_ | refine Wc.condT rfl ?_ | refine Wc.condF rfl ?_ | refine Wl.nilP rfl ?_ | refine Wl.fieldAddr rfl rfl ?_ | refine Wl.nilF rfl ?_ | refine Wl.add rfl rfl (by omega) (by omega) ?_ | refine Wl.sub rfl rfl (by omega) (by omega) ?_ | refine Wl.mul rfl rfl (by omega) (by omega) ?_ | refine Wl.convI rfl ?_ | (refine Wl.lss rfl rfl (fun _ => ?_) (fun _ => ?_) <;> (first | (exfalso; omega) | (exfalso; contradiction) | skip)) | (refine Wl.leq rfl rfl (fun _ => ?_) (fun _ => ?_) <;> (first | (exfalso; omega) | (exfalso; contradiction) | skip)) | (refine Wl.gtr rfl rfl (fun _ => ?_) (fun _ => ?_) <;> (first | (exfalso; omega) | (exfalso; contradiction) | skip)) | (refine Wl.geq rfl rfl (fun _ => ?_) (fun _ => ?_) <;> (first | (exfalso; omega) | (exfalso; contradiction) | skip)) | (refine Wl.eql rfl rfl (fun _ => ?_) (fun _ => ?_) <;> (first | (exfalso; omega) | (exfalso; contradiction) | skip)) | (refine Wl.neq rfl rfl (fun _ => ?_) (fun _ => ?_) <;> (first | (exfalso; omega) | (exfalso; contradiction) | skip)) | (refine Wl.seql rfl rfl (fun _ => ?_) (fun _ => ?_) <;> (first | (exfalso; omega) | (exfalso; contradiction) | skip)) | (refine Wl.sneq rfl rfl (fun _ => ?_) (fun _ => ?_) <;> (first | (exfalso; omega) | (exfalso; contradiction) | skip))))
  refine Wk.Wl.slss rfl rfl (fun h => ?_) (fun h => ?_)
  · (repeat' (first | refine Wl.moveE (by conv => { lhs; whnf }) ?_ | refine Wl.assignE (by conv => { lhs; whnf }) ?_ | refine Wl.nil ?_ | refine Wl.extract rfl rfl ?_ | refine Wl.guardY rfl rfl ?_ | refine Wl.guardN rfl rfl ?_ | refine Wl.guardU rfl ?_ | refine Wl.pickTE rfl (by conv => { lhs; whnf }) ?_ | refine Wl.pickFE rfl (by conv => { lhs; whnf }) ?_ | refine Wl.notB rfl ?_ | refine Wl.lenS rfl ?_ | refine Wl.lenStr rfl ?_ | refine Qseq.normal ?_ | refine Wc.seq ?_ | refine Wc.region ?_ | refine Wc.block ?_ | refine Wc.skip ?_ | refine Wc.exit ?_ | refine Wc.ret ?_ | refine Qseq.exit ?_ | refine Qseq.ret ?_ | refine Wc.scope ?_ | refine Wc.label ?_ | refine Qsc.normal ?_ | refine Qsc.exit ?_ | refine Qsc.ret ?_ | refine Qblk.normal ?_ | refine Qblk.ret ?_ | refine Qblk.hit ?_ | refine Qblk.miss rfl ?_ | refine Qloop.exit ?_ | refine Qloop.ret ?_ | refine Wc.condT rfl ?_ | refine Wc.condF rfl ?_ | refine Wl.nilP rfl ?_ | refine Wl.fieldAddr rfl rfl ?_ | refine Wl.nilF rfl ?_ | refine Wl.add rfl rfl (by omega) (by omega) ?_ | refine Wl.sub rfl rfl (by omega) (by omega) ?_ | refine Wl.mul rfl rfl (by omega) (by omega) ?_ | refine Wl.convI rfl ?_ | (refine Wl.lss rfl rfl (fun _ => ?_) (fun _ => ?_) <;> (first | (exfalso; omega) | (exfalso; contradiction) | skip)) | (refine Wl.leq rfl rfl (fun _ => ?_) (fun _ => ?_) <;> (first | (exfalso; omega) | (exfalso; contradiction) | skip)) | (refine Wl.gtr rfl rfl (fun _ => ?_) (fun _ => ?_) <;> (first | (exfalso; omega) | (exfalso; contradiction) | skip)) | (refine Wl.geq rfl rfl (fun _ => ?_) (fun _ => ?_) <;> (first | (exfalso; omega) | (exfalso; contradiction) | skip)) | (refine Wl.eql rfl rfl (fun _ => ?_) (fun _ => ?_) <;> (first | (exfalso; omega) | (exfalso; contradiction) | skip)) | (refine Wl.neq rfl rfl (fun _ => ?_) (fun _ => ?_) <;> (first | (exfalso; omega) | (exfalso; contradiction) | skip)) | (refine Wl.seql rfl rfl (fun _ => ?_) (fun _ => ?_) <;> (first | (exfalso; omega) | (exfalso; contradiction) | skip)) | (refine Wl.sneq rfl rfl (fun _ => ?_) (fun _ => ?_) <;> (first | (exfalso; omega) | (exfalso; contradiction) | skip))))
    refine Qfn.ret1 rfl rfl ⟨_, rfl, ?_, rfl⟩
    unfold cmpS; rw [if_pos h]; rfl
  · (repeat' (first | refine Wl.moveE (by conv => { lhs; whnf }) ?_ | refine Wl.assignE (by conv => { lhs; whnf }) ?_ | refine Wl.nil ?_ | refine Wl.extract rfl rfl ?_ | refine Wl.guardY rfl rfl ?_ | refine Wl.guardN rfl rfl ?_ | refine Wl.guardU rfl ?_ | refine Wl.pickTE rfl (by conv => { lhs; whnf }) ?_ | refine Wl.pickFE rfl (by conv => { lhs; whnf }) ?_ | refine Wl.notB rfl ?_ | refine Wl.lenS rfl ?_ | refine Wl.lenStr rfl ?_ | refine Qseq.normal ?_ | refine Wc.seq ?_ | refine Wc.region ?_ | refine Wc.block ?_ | refine Wc.skip ?_ | refine Wc.exit ?_ | refine Wc.ret ?_ | refine Qseq.exit ?_ | refine Qseq.ret ?_ | refine Wc.scope ?_ | refine Wc.label ?_ | refine Qsc.normal ?_ | refine Qsc.exit ?_ | refine Qsc.ret ?_ | refine Qblk.normal ?_ | refine Qblk.ret ?_ | refine Qblk.hit ?_ | refine Qblk.miss rfl ?_ | refine Qloop.exit ?_ | refine Qloop.ret ?_ | refine Wc.condT rfl ?_ | refine Wc.condF rfl ?_ | refine Wl.nilP rfl ?_ | refine Wl.fieldAddr rfl rfl ?_ | refine Wl.nilF rfl ?_ | refine Wl.add rfl rfl (by omega) (by omega) ?_ | refine Wl.sub rfl rfl (by omega) (by omega) ?_ | refine Wl.mul rfl rfl (by omega) (by omega) ?_ | refine Wl.convI rfl ?_ | (refine Wl.lss rfl rfl (fun _ => ?_) (fun _ => ?_) <;> (first | (exfalso; omega) | (exfalso; contradiction) | skip)) | (refine Wl.leq rfl rfl (fun _ => ?_) (fun _ => ?_) <;> (first | (exfalso; omega) | (exfalso; contradiction) | skip)) | (refine Wl.gtr rfl rfl (fun _ => ?_) (fun _ => ?_) <;> (first | (exfalso; omega) | (exfalso; contradiction) | skip)) | (refine Wl.geq rfl rfl (fun _ => ?_) (fun _ => ?_) <;> (first | (exfalso; omega) | (exfalso; contradiction) | skip)) | (refine Wl.eql rfl rfl (fun _ => ?_) (fun _ => ?_) <;> (first | (exfalso; omega) | (exfalso; contradiction) | skip)) | (refine Wl.neq rfl rfl (fun _ => ?_) (fun _ => ?_) <;> (first | (exfalso; omega) | (exfalso; contradiction) | skip)) | (refine Wl.seql rfl rfl (fun _ => ?_) (fun _ => ?_) <;> (first | (exfalso; omega) | (exfalso; contradiction) | skip)) | (refine Wl.sneq rfl rfl (fun _ => ?_) (fun _ => ?_) <;> (first | (exfalso; omega) | (exfalso; contradiction) | skip))))
    refine Wk.Wl.sgtr rfl rfl (fun h' => ?_) (fun h' => ?_)
    · (repeat' (first | refine Wl.moveE (by conv => { lhs; whnf }) ?_ | refine Wl.assignE (by conv => { lhs; whnf }) ?_ | refine Wl.nil ?_ | refine Wl.extract rfl rfl ?_ | refine Wl.guardY rfl rfl ?_ | refine Wl.guardN rfl rfl ?_ | refine Wl.guardU rfl ?_ | refine Wl.pickTE rfl (by conv => { lhs; whnf }) ?_ | refine Wl.pickFE rfl (by conv => { lhs; whnf }) ?_ | refine Wl.notB rfl ?_ | refine Wl.lenS rfl ?_ | refine Wl.lenStr rfl ?_ | refine Qseq.normal ?_ | refine Wc.seq ?_ | refine Wc.region ?_ | refine Wc.block ?_ | refine Wc.skip ?_ | refine Wc.exit ?_ | refine Wc.ret ?_ | refine Qseq.exit ?_ | refine Qseq.ret ?_ | refine Wc.scope ?_ | refine Wc.label ?_ | refine Qsc.normal ?_ | refine Qsc.exit ?_ | refine Qsc.ret ?_ | refine Qblk.normal ?_ | refine Qblk.ret ?_ | refine Qblk.hit ?_ | refine Qblk.miss rfl ?_ | refine Qloop.exit ?_ | refine Qloop.ret ?_ | refine Wc.condT rfl ?_ | refine Wc.condF rfl ?_ | refine Wl.nilP rfl ?_ | refine Wl.fieldAddr rfl rfl ?_ | refine Wl.nilF rfl ?_ | refine Wl.add rfl rfl (by omega) (by omega) ?_ | refine Wl.sub rfl rfl (by omega) (by omega) ?_ | refine Wl.mul rfl rfl (by omega) (by omega) ?_ | refine Wl.convI rfl ?_ | (refine Wl.lss rfl rfl (fun _ => ?_) (fun _ => ?_) <;> (first | (exfalso; omega) | (exfalso; contradiction) | skip)) | (refine Wl.leq rfl rfl (fun _ => ?_) (fun _ => ?_) <;> (first | (exfalso; omega) | (exfalso; contradiction) | skip)) | (refine Wl.gtr rfl rfl (fun _ => ?_) (fun _ => ?_) <;> (first | (exfalso; omega) | (exfalso; contradiction) | skip)) | (refine Wl.geq rfl rfl (fun _ => ?_) (fun _ => ?_) <;> (first | (exfalso; omega) | (exfalso; contradiction) | skip)) | (refine Wl.eql rfl rfl (fun _ => ?_) (fun _ => ?_) <;> (first | (exfalso; omega) | (exfalso; contradiction) | skip)) | (refine Wl.neq rfl rfl (fun _ => ?_) (fun _ => ?_) <;> (first | (exfalso; omega) | (exfalso; contradiction) | skip)) | (refine Wl.seql rfl rfl (fun _ => ?_) (fun _ => ?_) <;> (first | (exfalso; omega) | (exfalso; contradiction) | skip)) | (refine Wl.sneq rfl rfl (fun _ => ?_) (fun _ => ?_) <;> (first | (exfalso; omega) | (exfalso; contradiction) | skip))))
      refine Qfn.ret1 rfl rfl ⟨_, rfl, ?_, rfl⟩
      unfold cmpS; rw [if_neg h, if_pos h']; rfl
    · (repeat' (first | refine Wl.moveE (by conv => { lhs; whnf }) ?_ | refine Wl.assignE (by conv => { lhs; whnf }) ?_ | refine Wl.nil ?_ | refine Wl.extract rfl rfl ?_ | refine Wl.guardY rfl rfl ?_ | refine Wl.guardN rfl rfl ?_ | refine Wl.guardU rfl ?_ | refine Wl.pickTE rfl (by conv => { lhs; whnf }) ?_ | refine Wl.pickFE rfl (by conv => { lhs; whnf }) ?_ | refine Wl.notB rfl ?_ | refine Wl.lenS rfl ?_ | refine Wl.lenStr rfl ?_ | refine Qseq.normal ?_ | refine Wc.seq ?_ | refine Wc.region ?_ | refine Wc.block ?_ | refine Wc.skip ?_ | refine Wc.exit ?_ | refine Wc.ret ?_ | refine Qseq.exit ?_ | refine Qseq.ret ?_ | refine Wc.scope ?_ | refine Wc.label ?_ | refine Qsc.normal ?_ | refine Qsc.exit ?_ | refine Qsc.ret ?_ | refine Qblk.normal ?_ | refine Qblk.ret ?_ | refine Qblk.hit ?_ | refine Qblk.miss rfl ?_ | refine Qloop.exit ?_ | refine Qloop.ret ?_ | refine Wc.condT rfl ?_ | refine Wc.condF rfl ?_ | refine Wl.nilP rfl ?_ | refine Wl.fieldAddr rfl rfl ?_ | refine Wl.nilF rfl ?_ | refine Wl.add rfl rfl (by omega) (by omega) ?_ | refine Wl.sub rfl rfl (by omega) (by omega) ?_ | refine Wl.mul rfl rfl (by omega) (by omega) ?_ | refine Wl.convI rfl ?_ | (refine Wl.lss rfl rfl (fun _ => ?_) (fun _ => ?_) <;> (first | (exfalso; omega) | (exfalso; contradiction) | skip)) | (refine Wl.leq rfl rfl (fun _ => ?_) (fun _ => ?_) <;> (first | (exfalso; omega) | (exfalso; contradiction) | skip)) | (refine Wl.gtr rfl rfl (fun _ => ?_) (fun _ => ?_) <;> (first | (exfalso; omega) | (exfalso; contradiction) | skip)) | (refine Wl.geq rfl rfl (fun _ => ?_) (fun _ => ?_) <;> (first | (exfalso; omega) | (exfalso; contradiction) | skip)) | (refine Wl.eql rfl rfl (fun _ => ?_) (fun _ => ?_) <;> (first | (exfalso; omega) | (exfalso; contradiction) | skip)) | (refine Wl.neq rfl rfl (fun _ => ?_) (fun _ => ?_) <;> (first | (exfalso; omega) | (exfalso; contradiction) | skip)) | (refine Wl.seql rfl rfl (fun _ => ?_) (fun _ => ?_) <;> (first | (exfalso; omega) | (exfalso; contradiction) | skip)) | (refine Wl.sneq rfl rfl (fun _ => ?_) (fun _ => ?_) <;> (first | (exfalso; omega) | (exfalso; contradiction) | skip))))
      refine Qfn.ret1 rfl rfl ⟨_, rfl, ?_, rfl⟩
      unfold cmpS; rw [if_neg h, if_neg h']; rfl
theorem order_spec {w : World} {i j : Nat} {p q : List UInt8} {d e : Dv} (hi : Bk w i tDev (dvC p d)) (hj : Bk w j tDev (dvC q e)) : Calls Tryd.prog 49 #[pT i, pT j] w (Ret fun r w' => r = vi (cmpS p q) ∧ ∃ n, w' = w.drewN n) := by
  refine calls_of_Wc Tryd.func49 rfl Tryd.ntmps49 rfl ?_
  (repeat' (first | refine Wl.moveE (by conv => { lhs; whnf }) ?_ | refine Wl.assignE (by conv => { lhs; whnf }) ?_ | refine Wl.nil ?_ | refine Wl.extract rfl rfl ?_ | refine Wl.guardY rfl rfl ?_ | refine Wl.guardN rfl rfl ?_ | refine Wl.guardU rfl ?_ | refine Wl.pickTE rfl (by conv => { lhs; whnf }) ?_ | refine Wl.pickFE rfl (by conv => { lhs; whnf }) ?_ | refine Wl.notB rfl ?_ | refine Wl.lenS rfl ?_ | refine Wl.lenStr rfl ?_ | refine Qseq.normal ?_ | refine Wc.seq ?_ | refine Wc.region ?_ | refine Wc.block ?_ | refine Wc.skip ?_ | refine Wc.exit ?_ | refine Wc.ret ?_ | refine Qseq.exit ?_ | refine Qseq.ret ?_ | refine Wc.scope ?_ | refine Wc.label ?_ | refine Qsc.normal ?_ | refine Qsc.exit ?_ | refine Qsc.ret ?_ | refine Qblk.normal ?_ | refine Qblk.ret ?_ | refine Qblk.hit ?_ | refine Qblk.miss rfl ?_ | refine Qloop.exit ?_ | refine Qloop.ret ?_ | refine Wc.condT rfl ?_ | refine Wc.condF rfl ?_ | refine Wl.nilP rfl ?_ | refine Wl.fieldAddr rfl rfl ?_ | refine Wl.nilF rfl ?_ | refine Wl.add rfl rfl (by omega) (by omega) ?_ | refine Wl.sub rfl rfl (by omega) (by omega) ?_ | refine Wl.mul rfl rfl (by omega) (by omega) ?_ | refine Wl.convI rfl ?_ | (refine Wl.lss rfl rfl (fun _ => ?_) (fun _ => ?_) <;> (first | (exfalso; omega) | (exfalso; contradiction) | skip)) | (refine Wl.leq rfl rfl (fun _ => ?_) (fun _ => ?_) <;> (first | (exfalso; omega) | (exfalso; contradiction) | skip)) | (refine Wl.gtr rfl rfl (fun _ => ?_) (fun _ => ?_) <;> (first | (exfalso; omega) | (exfalso; contradiction) | skip)) | (refine Wl.geq rfl rfl (fun _ => ?_) (fun _ => ?_) <;> (first | (exfalso; omega) | (exfalso; contradiction) | skip)) | (refine Wl.eql rfl rfl (fun _ => ?_) (fun _ => ?_) <;> (first | (exfalso; omega) | (exfalso; contradiction) | skip)) | (refine Wl.neq rfl rfl (fun _ => ?_) (fun _ => ?_) <;> (first | (exfalso; omega) | (exfalso; contradiction) | skip)) | (refine Wl.seql rfl rfl (fun _ => ?_) (fun _ => ?_) <;> (first | (exfalso; omega) | (exfalso; contradiction) | skip)) | (refine Wl.sneq rfl rfl (fun _ => ?_) (fun _ => ?_) <;> (first | (exfalso; omega) | (exfalso; contradiction) | skip))))
  refine Wc.regionQ (fun w' => ∃ n, w' = w.drewN n) rfl (by kernel_rfl) ⟨1, rfl⟩ ?_
  (repeat' (first | refine Wq.moveE (by conv => { lhs; whnf }) ?_ | refine Wq.assignE (by conv => { lhs; whnf }) ?_ | refine Wq.nil ?_ | refine Wq.extract rfl rfl ?_ | refine Wq.guardY rfl rfl ?_ | refine Wq.guardN rfl rfl ?_ | refine Wq.guardU rfl ?_ | refine Wq.pickTE rfl (by conv => { lhs; whnf }) ?_ | refine Wq.pickFE rfl (by conv => { lhs; whnf }) ?_ | refine Wq.notB rfl ?_ | refine Wq.lenS rfl ?_ | refine Wq.lenStr rfl ?_ | refine Wq.nilP rfl ?_ | refine Wq.fieldAddr rfl rfl ?_ | refine Wq.add rfl rfl (by omega) (by omega) ?_ | refine Wq.sub rfl rfl (by omega) (by omega) ?_ | refine Wq.mul rfl rfl (by omega) (by omega) ?_ | refine Wq.convI rfl ?_ | (refine Wq.lss rfl rfl (fun _ => ?_) (fun _ => ?_) <;> (first | (exfalso; omega) | (exfalso; contradiction) | skip)) | (refine Wq.leq rfl rfl (fun _ => ?_) (fun _ => ?_) <;> (first | (exfalso; omega) | (exfalso; contradiction) | skip)) | (refine Wq.gtr rfl rfl (fun _ => ?_) (fun _ => ?_) <;> (first | (exfalso; omega) | (exfalso; contradiction) | skip)) | (refine Wq.geq rfl rfl (fun _ => ?_) (fun _ => ?_) <;> (first | (exfalso; omega) | (exfalso; contradiction) | skip)) | (refine Wq.eql rfl rfl (fun _ => ?_) (fun _ => ?_) <;> (first | (exfalso; omega) | (exfalso; contradiction) | skip)) | (refine Wq.neq rfl rfl (fun _ => ?_) (fun _ => ?_) <;> (first | (exfalso; omega) | (exfalso; contradiction) | skip)) | (refine Wq.seql rfl rfl (fun _ => ?_) (fun _ => ?_) <;> (first | (exfalso; omega) | (exfalso; contradiction) | skip)) | (refine Wq.sneq rfl rfl (fun _ => ?_) (fun _ => ?_) <;> (first | (exfalso; omega) | (exfalso; contradiction) | skip))))
  refine Wq.load1 rfl (fun w' h => by obtain ⟨n, rfl⟩ := h; exact hi.cell (o := 0) rfl) ?_
  (repeat' (first | refine Wq.moveE (by conv => { lhs; whnf }) ?_ | refine Wq.assignE (by conv => { lhs; whnf }) ?_ | refine Wq.nil ?_ | refine Wq.extract rfl rfl ?_ | refine Wq.guardY rfl rfl ?_ | refine Wq.guardN rfl rfl ?_ | refine Wq.guardU rfl ?_ | refine Wq.pickTE rfl (by conv => { lhs; whnf }) ?_ | refine Wq.pickFE rfl (by conv => { lhs; whnf }) ?_ | refine Wq.notB rfl ?_ | refine Wq.lenS rfl ?_ | refine Wq.lenStr rfl ?_ | refine Wq.nilP rfl ?_ | refine Wq.fieldAddr rfl rfl ?_ | refine Wq.add rfl rfl (by omega) (by omega) ?_ | refine Wq.sub rfl rfl (by omega) (by omega) ?_ | refine Wq.mul rfl rfl (by omega) (by omega) ?_ | refine Wq.convI rfl ?_ | (refine Wq.lss rfl rfl (fun _ => ?_) (fun _ => ?_) <;> (first | (exfalso; omega) | (exfalso; contradiction) | skip)) | (refine Wq.leq rfl rfl (fun _ => ?_) (fun _ => ?_) <;> (first | (exfalso; omega) | (exfalso; contradiction) | skip)) | (refine Wq.gtr rfl rfl (fun _ => ?_) (fun _ => ?_) <;> (first | (exfalso; omega) | (exfalso; contradiction) | skip)) | (refine Wq.geq rfl rfl (fun _ => ?_) (fun _ => ?_) <;> (first | (exfalso; omega) | (exfalso; contradiction) | skip)) | (refine Wq.eql rfl rfl (fun _ => ?_) (fun _ => ?_) <;> (first | (exfalso; omega) | (exfalso; contradiction) | skip)) | (refine Wq.neq rfl rfl (fun _ => ?_) (fun _ => ?_) <;> (first | (exfalso; omega) | (exfalso; contradiction) | skip)) | (refine Wq.seql rfl rfl (fun _ => ?_) (fun _ => ?_) <;> (first | (exfalso; omega) | (exfalso; contradiction) | skip)) | (refine Wq.sneq rfl rfl (fun _ => ?_) (fun _ => ?_) <;> (first | (exfalso; omega) | (exfalso; contradiction) | skip))))
  refine Wq.load1 rfl (fun w' h => by obtain ⟨n, rfl⟩ := h; exact hj.cell (o := 0) rfl) ?_
  refine Wq.call (v := vi (cmpS p q)) (fun w' h => Compare_spec.mono ?_) rfl ?_
  · rintro _ w'' ⟨v, rfl, rfl, rfl⟩
    exact ⟨rfl, h⟩
  (repeat' (first | refine Wq.moveE (by conv => { lhs; whnf }) ?_ | refine Wq.assignE (by conv => { lhs; whnf }) ?_ | refine Wq.nil ?_ | refine Wq.extract rfl rfl ?_ | refine Wq.guardY rfl rfl ?_ | refine Wq.guardN rfl rfl ?_ | refine Wq.guardU rfl ?_ | refine Wq.pickTE rfl (by conv => { lhs; whnf }) ?_ | refine Wq.pickFE rfl (by conv => { lhs; whnf }) ?_ | refine Wq.notB rfl ?_ | refine Wq.lenS rfl ?_ | refine Wq.lenStr rfl ?_ | refine Wq.nilP rfl ?_ | refine Wq.fieldAddr rfl rfl ?_ | refine Wq.add rfl rfl (by omega) (by omega) ?_ | refine Wq.sub rfl rfl (by omega) (by omega) ?_ | refine Wq.mul rfl rfl (by omega) (by omega) ?_ | refine Wq.convI rfl ?_ | (refine Wq.lss rfl rfl (fun _ => ?_) (fun _ => ?_) <;> (first | (exfalso; omega) | (exfalso; contradiction) | skip)) | (refine Wq.leq rfl rfl (fun _ => ?_) (fun _ => ?_) <;> (first | (exfalso; omega) | (exfalso; contradiction) | skip)) | (refine Wq.gtr rfl rfl (fun _ => ?_) (fun _ => ?_) <;> (first | (exfalso; omega) | (exfalso; contradiction) | skip)) | (refine Wq.geq rfl rfl (fun _ => ?_) (fun _ => ?_) <;> (first | (exfalso; omega) | (exfalso; contradiction) | skip)) | (refine Wq.eql rfl rfl (fun _ => ?_) (fun _ => ?_) <;> (first | (exfalso; omega) | (exfalso; contradiction) | skip)) | (refine Wq.neq rfl rfl (fun _ => ?_) (fun _ => ?_) <;> (first | (exfalso; omega) | (exfalso; contradiction) | skip)) | (refine Wq.seql rfl rfl (fun _ => ?_) (fun _ => ?_) <;> (first | (exfalso; omega) | (exfalso; contradiction) | skip)) | (refine Wq.sneq rfl rfl (fun _ => ?_) (fun _ => ?_) <;> (first | (exfalso; omega) | (exfalso; contradiction) | skip))))
  rintro w' h
  (repeat' (first | refine Wl.moveE (by conv => { lhs; whnf }) ?_ | refine Wl.assignE (by conv => { lhs; whnf }) ?_ | refine Wl.nil ?_ | refine Wl.extract rfl rfl ?_ | refine Wl.guardY rfl rfl ?_ | refine Wl.guardN rfl rfl ?_ | refine Wl.guardU rfl ?_ | refine Wl.pickTE rfl (by conv => { lhs; whnf }) ?_ | refine Wl.pickFE rfl (by conv => { lhs; whnf }) ?_ | refine Wl.notB rfl ?_ | refine Wl.lenS rfl ?_ | refine Wl.lenStr rfl ?_ | refine Qseq.normal ?_ | refine Wc.seq ?_ | refine Wc.region ?_ | refine Wc.block ?_ | refine Wc.skip ?_ | refine Wc.exit ?_ | refine Wc.ret ?_ | refine Qseq.exit ?_ | refine Qseq.ret ?_ | refine Wc.scope ?_ | refine Wc.label ?_ | refine Qsc.normal ?_ | refine Qsc.exit ?_ | refine Qsc.ret ?_ | refine Qblk.normal ?_ | refine Qblk.ret ?_ | refine Qblk.hit ?_ | refine Qblk.miss rfl ?_ | refine Qloop.exit ?_ | refine Qloop.ret ?_ | refine Wc.condT rfl ?_ | refine Wc.condF rfl ?_ | refine Wl.nilP rfl ?_ | refine Wl.fieldAddr rfl rfl ?_ | refine Wl.nilF rfl ?_ | refine Wl.add rfl rfl (by omega) (by omega) ?_ | refine Wl.sub rfl rfl (by omega) (by omega) ?_ | refine Wl.mul rfl rfl (by omega) (by omega) ?_ | refine Wl.convI rfl ?_ | (refine Wl.lss rfl rfl (fun _ => ?_) (fun _ => ?_) <;> (first | (exfalso; omega) | (exfalso; contradiction) | skip)) | (refine Wl.leq rfl rfl (fun _ => ?_) (fun _ => ?_) <;> (first | (exfalso; omega) | (exfalso; contradiction) | skip)) | (refine Wl.gtr rfl rfl (fun _ => ?_) (fun _ => ?_) <;> (first | (exfalso; omega) | (exfalso; contradiction) | skip)) | (refine Wl.geq rfl rfl (fun _ => ?_) (fun _ => ?_) <;> (first | (exfalso; omega) | (exfalso; contradiction) | skip)) | (refine Wl.eql rfl rfl (fun _ => ?_) (fun _ => ?_) <;> (first | (exfalso; omega) | (exfalso; contradiction) | skip)) | (refine Wl.neq rfl rfl (fun _ => ?_) (fun _ => ?_) <;> (first | (exfalso; omega) | (exfalso; contradiction) | skip)) | (refine Wl.seql rfl rfl (fun _ => ?_) (fun _ => ?_) <;> (first | (exfalso; omega) | (exfalso; contradiction) | skip)) | (refine Wl.sneq rfl rfl (fun _ => ?_) (fun _ => ?_) <;> (first | (exfalso; omega) | (exfalso; contradiction) | skip))))
  exact Qfn.ret1 rfl rfl ⟨_, rfl, rfl, h⟩
section
variable {α : Type} [Inhabited α] {enc : α → Value} {w : World} {blk n : Nat} {d : Array α} {os : Array Obj}
theorem chg_sortWorld (hb : blk < w.heap.size) : Chg (fun j => j = blk) w (sortWorld enc w blk 0 n d os) :=
  ⟨rfl, rfl, rfl, by simp [sortWorld, Sort.grow, Sort.putRow, Sort.mapBlock, Sort.ahead], fun j hj hn => by
    have : ¬ blk = j := fun e => hn e.symm
    simp only [sortWorld, Sort.grow, Sort.putRow, Sort.mapBlock, Sort.ahead]
    rw [Array.getElem?_append_left (by simpa using hj), Array.getElem?_modify, if_neg this]⟩
theorem heap_sortWorld {cs : Array Value} {T : TypeId} (h : w.heap[blk]? = some (.cells cs T (0, 0))) : (sortWorld enc w blk 0 n d os).heap[blk]? = some (.cells (Sort.putCells enc 0 d cs) T (0, 0)) := by
  have hb := (Array.getElem?_eq_some_iff.1 h).1
  simp only [sortWorld, Sort.grow, Sort.putRow, Sort.mapBlock, Sort.ahead]
  rw [Array.getElem?_append_left (by simpa using hb), Array.getElem?_modify, if_pos rfl, h]
  rfl
end
/-- A device in memory: its block, its path, what it is. -/
abbrev Pd := Nat × List UInt8 × Dv
abbrev pdV : Pd → Value := fun x => pT x.1
theorem goodPd : GoodR (Wk.one pdV) 1 := good_one _ fun _ => rfl
theorem sort_spec {Pb : Nat → Prop} {w : World} {L : List Pd} {v : Value} (own : OwnS (Wk.one pdV) 98 1 Pb No w v L) (hdev : ∀ x ∈ L, Bk w x.1 tDev (dvC x.2.1 x.2.2)) (hk : L.Pairwise fun a b => a.2.1 ≠ b.2.1) (hsep : ∀ x ∈ L, v.ownBlock ≠ some x.1) (hlen : L.length ≤ 2000000) :
    Calls Tryd.prog 48 #[v, .func (.func 49) #[] #[]] w (Ret fun _ w' => ∃ L', L'.Perm L ∧ (L'.Pairwise fun a b => a.2.1 < b.2.1) ∧ OwnS (Wk.one pdV) 98 1 Pb No w' v L' ∧ Chg (fun k => v.ownBlock = some k) w w') := by
  by_cases hL : L = []
  · subst hL
    obtain ⟨a, cap, rfl, _, _⟩ := own.form
    refine (AnyF.slices_SortFunc_none ({ Tryd.sortD with } : SlLaysF0.n6 Tryd.prog Tryd.sortD_ren) a cap _ w).mono ?_
    rintro _ w' ⟨rfl, rfl⟩
    exact ⟨_, rfl, [], .nil, .nil, own, Chg.refl _ _⟩
  obtain ⟨g, cap, hv, _, hg, hvb⟩ := own.blk hL
  subst hv
  obtain ⟨x0, hx0⟩ := List.exists_mem_of_ne_nil _ hL
  haveI : Inhabited { x : Pd // x ∈ L } := ⟨⟨x0, hx0⟩⟩
  obtain ⟨hcl, h0 | ⟨g', cap', cur, e1, hPg, hheap, h1, h2, h3, h4⟩⟩ := own.to1
  · exact absurd h0.1 (by simp)
  cases e1
  let enc : { x : Pd // x ∈ L } → Value := fun x => pdV x.1
  let cf : { x : Pd // x ∈ L } → { x : Pd // x ∈ L } → Int := fun x y => cmpS x.1.2.1 y.1.2.1
  have hlt : ∀ x y, ltOf cf x y = decide (x.1.2.1 < y.1.2.1) := fun x y => cmpS_lt _ _
  have hO : SWO (ltOf cf) := by
    refine ⟨fun x => ?_, fun x y z h1 h2 => ?_, fun x y z h1 h2 => ?_⟩
    · rw [hlt, decide_eq_false (List.lt_irrefl _)]
    · rw [hlt] at *
      exact decide_eq_true (List.lt_trans (of_decide_eq_true h1) (of_decide_eq_true h2))
    · rw [hlt] at *
      refine decide_eq_false fun h => ?_
      have h1' := of_decide_eq_false h1
      have h2' := of_decide_eq_false h2
      by_cases e : y.1.2.1 = z.1.2.1
      · rw [e] at h1'; exact h1' h
      · exact h1' (List.lt_trans h (lt_of_not h2' e))
  have hT : ∀ x y, (ltOf cf) x y = false → (ltOf cf) y x = false → x = y := by
    intro x y h1 h2
    rw [hlt] at h1 h2
    have e : x.1.2.1 = y.1.2.1 := by
      by_cases e : x.1.2.1 = y.1.2.1
      · exact e
      · exact absurd (lt_of_not (of_decide_eq_false h1) e) (of_decide_eq_false h2)
    have key : ∀ {L : List Pd}, (L.Pairwise fun a b => a.2.1 ≠ b.2.1) → ∀ a ∈ L, ∀ b ∈ L, a.2.1 = b.2.1 → a = b := by
      intro L
      induction L with
      | nil => intro _ a ha; simp at ha
      | cons c L ih =>
        intro hp a ha b hb hab
        obtain ⟨q1, q2⟩ := List.pairwise_cons.1 hp
        rcases List.mem_cons.1 ha with ha | ha <;> rcases List.mem_cons.1 hb with hb | hb
        · rw [ha, hb]
        · exact absurd (by rw [← ha]; exact hab) (q1 b hb)
        · exact absurd (by rw [← hb]; exact hab.symm) (q1 a ha)
        · exact ih q2 a ha b hb hab
    exact Subtype.ext (key hk x.1 x.2 y.1 y.2 e)
  have hds : L.attach.toArray.size = L.length := by simp
  have hcur : ∀ (j : Nat) (hj : j < L.length), cur[j]? = some (pdV L[j]) := by
    intro j hj
    have h5 : (List.take (L.length * 1) cur.toList)[j]? = (L.map pdV)[j]? := by rw [h4]
    rw [List.getElem?_take, if_pos (by omega), List.getElem?_map, List.getElem?_eq_getElem hj] at h5
    simpa using h5
  have hH : Holds enc w g 0 L.attach.toArray := by
    intro j hj
    rw [hds] at hj
    refine ⟨?_, ?_⟩
    · simp only [World.cell?, hheap, Nat.zero_add]
      have : L.attach.toArray[j]! = ⟨L[j], List.getElem_mem hj⟩ := by simp [hj]
      rw [this]
      simpa using hcur j hj
    · simp [World.frozen?, hheap]
  have hcmp : CmpLays1 Tryd.prog 49 #[] enc cf g 0 L.attach.toArray.size w := by
    intro m os dk hs x y
    have cg := chg_sortWorld (enc := enc) (n := m) (d := dk) (os := os) hg
    have bx := (hdev x.1 x.2).chg cg fun e => hsep x.1 x.2 (by rw [e]; rfl)
    have by' := (hdev y.1 y.2).chg cg fun e => hsep y.1 y.2 (by rw [e]; rfl)
    refine (order_spec bx by').mono ?_
    rintro _ w' ⟨v, rfl, rfl, q, rfl⟩
    exact ⟨rfl, q, #[], by rw [Sort.grow_empty]⟩
  have h := Any.slices_SortFunc_total Tryd.sortD enc (fun _ => rfl) cf hO 49 #[] g 0 cap L.attach.toArray w (fun args w => run_callFunc (inferInstance : Callable Tryd.prog 49) args) hcmp hH hg (by rw [hds]; omega) hT
  rw [hds] at h
  refine h.mono ?_
  rintro _ w' ⟨rfl, n, os, rfl⟩
  have hAt : L.attach.toArray.toList = L.attach := rfl
  have hp0 := List.mergeSort_perm L.attach.toArray.toList fun x y => !(ltOf cf) y x
  have hs0 := List.pairwise_mergeSort (le := fun x y : { x : Pd // x ∈ L } => !(ltOf cf) y x) (fun a b c h1 h2 => by
    simp only [Bool.not_eq_true'] at h1 h2 ⊢
    exact hO.ntrans c b a h2 h1) (fun a b => by
    rw [hlt, hlt]
    by_cases e : b.1.2.1 < a.1.2.1
    · rw [decide_eq_false (List.lt_asymm e)]; simp
    · rw [decide_eq_false e]; simp) L.attach.toArray.toList
  generalize L.attach.toArray.toList.mergeSort (fun x y => !(ltOf cf) y x) = D at hp0 hs0 ⊢
  have hperm : (D.map (·.1)).Perm L := by
    have := hp0.map (fun x : { x : Pd // x ∈ L } => x.1)
    rwa [hAt, List.attach_map_subtype_val] at this
  have hDl : D.length = L.length := by have := hperm.length_eq; simpa using this
  refine ⟨_, rfl, D.map (·.1), hperm, ?_, ?_, (chg_sortWorld hg).mono fun k _ e => by rw [e]; rfl⟩
  · have hk' := (hperm.pairwise_iff (R := fun a b : Pd => a.2.1 ≠ b.2.1) fun h => h.symm).2 hk
    have hs1 : (D.map (·.1)).Pairwise fun a b : Pd => ¬ b.2.1 < a.2.1 := by
      rw [List.pairwise_map]
      refine hs0.imp fun {a b} hab => ?_
      rw [hlt] at hab
      simpa using hab
    exact (hs1.and hk').imp fun {a b} hab => lt_of_not hab.1 fun e => hab.2 e.symm
  · refine OwnS.of1 (m := L.length) (by simp [hDl]) ⟨by simp [hDl], .inr ⟨g, cap, _, rfl, hPg, heap_sortWorld hheap, h1, h2, by simp [Sort.putCells, h3], ?_⟩⟩
    apply List.ext_getElem?
    intro j
    rw [List.getElem?_take]
    by_cases hj : j < L.length
    · rw [if_pos (by omega), Array.getElem?_toList, Sort.putCells, Array.getElem?_mapIdx, hcur j hj, Option.map_some, if_pos ⟨Nat.zero_le _, by simp; omega⟩]
      have hjD : j < D.length := by omega
      rw [List.getElem?_map, List.getElem?_map, List.getElem?_eq_getElem hjD]
      simp [hjD, enc]
    · rw [if_neg (by omega), List.getElem?_eq_none (by simp; omega)]
end Go.Proofs.YtjaendlcijmifaaDoor
