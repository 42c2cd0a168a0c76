/-
  Texts of this claim, one behind the other: T7, Xp, Bulk, Xo, X2.
-/
import Derived.Test.YtjaendlcijmifaaDoorZe
import Derived.Test.YtjaendlcijmifaaDoorRows
import Derived.Lib.LaidTab
import Derived.ChangeSame
namespace Go.Proofs.YtjaendlcijmifaaDoor
open Go Wk
open Go.RowKit (Below)
attribute [local irreducible] Go.Calls

/-- A ring of the program's at a, one of the reference's at c, in blocks of their own, apart. -/
def Bo (w : World) (a c : Nat) (t t' : Tr) (W : World) : Prop :=
  ∃ A B : Nat → Prop, (∀ k, A k → w.heap.size ≤ k ∧ k < W.heap.size ∧ ¬ B k) ∧ (∀ k, B k → w.heap.size ≤ k ∧ k < W.heap.size) ∧ Rg A W a t ∧ Rf B W c t'
section
variable {w W W' : World} {a c : Nat} {t t' : Tr} {M : Nat → Prop}
theorem Bo.chg (h : Bo w a c t t' W) (cg : Chg M W W') (hM : ∀ k, w.heap.size ≤ k → k < W.heap.size → ¬ M k) : Bo w a c t t' W' := by
  obtain ⟨A, B, hA, hB, ra, rb⟩ := h
  have s := cg.size
  exact ⟨A, B, fun k e => by have := hA k e; exact ⟨this.1, by omega, this.2.2⟩, fun k e => by have := hB k e; exact ⟨this.1, by omega⟩, ra.chg cg fun k e => hM k (hA k e).1 (hA k e).2.1, rb.chg cg fun k e => hM k (hB k e).1 (hB k e).2⟩
theorem Bo.new (h : Bo w a c t t' W) (n : New W W') : Bo w a c t t' W' := h.chg n fun _ _ _ e => e
theorem Bo.make {W1 W2 W3 : World} (ra : Rg (fun k => w.heap.size ≤ k) W1 a t) (hz : w.heap.size ≤ W1.heap.size) (n2 : New W1 W2) (rb : Rf (fun k => W2.heap.size ≤ k) W3 c t') (n3 : New W2 W3) : Bo w a c t t' W3 := by
  have s2 := n2.size
  have s3 := n3.size
  refine ⟨fun k => w.heap.size ≤ k ∧ k < W1.heap.size, fun k => W2.heap.size ≤ k ∧ k < W3.heap.size, fun k e => ⟨e.1, by omega, by omega⟩, fun k e => ⟨by omega, e.2⟩, ?_, rb.mono fun k hk e => ⟨e, hk⟩⟩
  exact (ra.mono (Pb' := fun k => w.heap.size ≤ k ∧ k < W1.heap.size) fun k hk e => ⟨e, hk⟩).new (n2.trans n3)
theorem Bo.rg (h : Bo w a c t t' W) : ∃ A, Rg A W a t := ⟨_, h.choose_spec.choose_spec.2.2.1⟩
theorem Bo.rf (h : Bo w a c t t' W) : ∃ B, Rf B W c t' := ⟨_, h.choose_spec.choose_spec.2.2.2⟩
theorem Bo.ok (h : Bo w a c t t' W) : TrOk t := by obtain ⟨_, r⟩ := h.rg; exact r.ok
theorem Bo.addP {W1 : World} (h : Bo w a c t t' W) (n : New W W1) {ca : Nat} {tm : Int} {kd : Nat} {pa : List UInt8} {ar : Int} (hw : InW ca tm kd ar) (hl : pa.length ≤ 100000000) :
    Calls Tryd.prog 10 #[pT a, .int .u64 ca, vi tm, .int .u8 kd, vs pa, vi ar] W1 (Ret fun r W' => r = .tuple #[.int .u64 (t.add ca tm kd pa ar).1, vi (t.add ca tm kd pa ar).2.1] ∧ Bo w a c (t.add ca tm kd pa ar).2.2 t' W' ∧ Chg (fun k => w.heap.size ≤ k ∧ k < W.heap.size) W1 W') := by
  obtain ⟨A, B, hA, hB, ra, rb⟩ := h
  have s0 := n.size
  replace ra := ra.new n
  replace rb := rb.new n
  refine (Add_spec ra hw hl).mono ?_
  rintro _ W' ⟨v, rfl, rfl, r1, c1⟩
  have s := c1.size
  refine ⟨_, rfl, rfl, ⟨fun k => A k ∨ W1.heap.size ≤ k ∧ k < W'.heap.size, B, ?_, ?_, r1.mono ?_, rb.chg c1 fun k e e' => (hA k e').2.2 e⟩, c1.mono fun k _ e => ⟨(hA k e).1, (hA k e).2.1⟩⟩
  · obtain ⟨_, _, _, h'⟩ := ra
    have hlt := (hA a h'.hb)
    rintro k (e | e)
    · have := hA k e; exact ⟨this.1, by omega, this.2.2⟩
    · exact ⟨by omega, e.2, fun e' => by have := (hB k e').2; omega⟩
  · intro k e; have := hB k e; exact ⟨this.1, by omega⟩
  · intro k hk e
    rcases e with e | e
    · exact .inl e
    · exact .inr ⟨e, hk⟩
theorem Bo.addQ {W1 : World} (h : Bo w a c t t' W) (n : New W W1) {ca : Nat} {tm : Int} {kd : Nat} {pa : List UInt8} {ar : Int} (hw : InW ca tm kd ar) (hl : pa.length ≤ 100000000) :
    Calls Tryd.prog 25 #[pT c, .int .u64 ca, vi tm, .int .u8 kd, vs pa, vi ar] W1 (Ret fun r W' => r = .tuple #[.int .u64 (t'.add ca tm kd pa ar).1, vi (t'.add ca tm kd pa ar).2.1] ∧ Bo w a c t (t'.add ca tm kd pa ar).2.2 W' ∧ Chg (fun k => w.heap.size ≤ k ∧ k < W.heap.size) W1 W') := by
  obtain ⟨A, B, hA, hB, ra, rb⟩ := h
  have s0 := n.size
  replace ra := ra.new n
  replace rb := rb.new n
  refine (AddR_spec rb hw hl).mono ?_
  rintro _ W' ⟨v, rfl, rfl, r1, c1⟩
  have s := c1.size
  refine ⟨_, rfl, rfl, ⟨A, fun k => B k ∨ W1.heap.size ≤ k ∧ k < W'.heap.size, ?_, ?_, ra.chg c1 fun k e e' => (hA k e).2.2 e', r1.mono ?_⟩, c1.mono fun k _ e => hB k e⟩
  · intro k e
    have := hA k e
    exact ⟨this.1, by omega, fun e' => by rcases e' with e' | e'; exact this.2.2 e'; omega⟩
  · obtain ⟨_, h'⟩ := rb
    have hlt := (hB c h'.hb)
    rintro k (e | e)
    · have := hB k e; exact ⟨this.1, by omega⟩
    · exact ⟨by omega, e.2⟩
  · intro k hk e
    rcases e with e | e
    · exact .inl e
    · exact .inr ⟨e, hk⟩
theorem Bo.looks (h : Bo w a c t t W) (ht : Tb W) : Calls Tryd.prog 26 #[pT a, pT c] W (Ret fun r w' => r = .bool true ∧ New W w') := by
  obtain ⟨_, r⟩ := h.rg
  obtain ⟨_, r'⟩ := h.rf
  exact looks_spec ht r r'
end
theorem lines_small {t : Tr} (h : TrOk t) : (∀ s ∈ linesM t, s.length ≤ 10000000) ∧ (linesM t).length ≤ 10000000 := by
  refine ⟨fun s hs => ?_, ?_⟩
  · obtain ⟨e, he, rfl⟩ := List.mem_map.1 hs
    obtain ⟨k1, k2, k3⟩ := h.ok e he
    have := lineM_len k1
    have := pathM_len k3
    omega
  · have := h.len
    have := h.s1
    simp only [linesM, List.length_map]
    omega
set_option maxRecDepth 8000 in
set_option maxHeartbeats 4000000 in
theorem keeps_law {w : World} {sz : Int} {v : Value} {l : List Ev} (ht : Tb w) (hE : ErrV w) (h : RdS rEv 6 (fun _ => True) w v l) (hw : ∀ e ∈ l, EvW e ∧ e.pa.length ≤ 100000000) :
    Calls Tryd.prog 6 #[vi sz, v] w (Ret fun r w' => r = .bool true ∧ New w w') := by
  obtain ⟨a1, cp1, rfl, hc1, hd1⟩ := h.form
  simp only [maxLen] at hd1
  refine calls_of_Wc Tryd.func6 rfl Tryd.ntmps6 rfl ?_
  (repeat' (first | refine Wl.moveE (by conv => { lhs; whnf }) ?_ | refine Wl.assignE (by conv => { lhs; whnf }) ?_ | refine Wl.nil ?_ | refine Qseq.normal ?_ | refine Wc.seq ?_ | refine Wc.region ?_))
  refine Wl.call (New_spec (n := sz)) rfl ?_
  rintro r w1 ⟨hr, n1⟩
  rcases hr with ⟨hr, rfl, rfl⟩ | ⟨hn0, hn1, a, rfl, ra⟩
  · (repeat' (first | refine Wl.moveE (by conv => { lhs; whnf }) ?_ | refine Wl.assignE (by conv => { lhs; whnf }) ?_ | refine Wl.nil ?_ | refine Wl.extract rfl rfl ?_ | refine Qseq.normal ?_ | refine Wc.seq ?_ | refine Wc.region ?_))
    refine Wl.call (NewR_spec (n := sz)) rfl ?_
    rintro r w2 ⟨hr', n2⟩
    rcases hr' with ⟨_, rfl, rfl⟩ | ⟨hn0, hn1, _⟩
    rotate_left
    · omega
    (repeat' (first | refine Wl.moveE (by conv => { lhs; whnf }) ?_ | refine Wl.assignE (by conv => { lhs; whnf }) ?_ | refine Wl.nil ?_ | refine Wl.extract rfl rfl ?_ | refine Wl.guardY rfl rfl ?_ | refine Qseq.normal ?_ | refine Wc.seq ?_ | refine Wc.region ?_ | (refine Wl.neq rfl rfl (fun _ => ?_) (fun _ => ?_) <;> (first | (exfalso; omega) | skip))))
    refine Wl.peqNil rfl rfl ?_
    (repeat' (first | refine Wl.moveE (by conv => { lhs; whnf }) ?_ | refine Wl.guardY rfl rfl ?_))
    refine Wl.peqNil rfl rfl ?_
    (try refine Wl.guardY rfl rfl ?_)
    refine Wk.Wl.bneq rfl rfl ?_
    (repeat' (first | refine Wl.moveE (by conv => { lhs; whnf }) ?_ | refine Wl.nil ?_ | refine Wl.pickFE rfl (by conv => { lhs; whnf }) ?_ | refine Qseq.normal ?_ | refine Wc.seq ?_ | refine Wc.region ?_ | refine Wc.skip ?_ | refine Wc.condF rfl ?_))
    refine Wl.peqNil rfl rfl ?_
    (repeat' (first | refine Wl.nil ?_ | refine Qseq.normal ?_ | refine Wc.seq ?_ | refine Wc.region ?_ | refine Wc.condT rfl ?_))
    refine Wl.call (awake_spec ht) rfl ?_
    rintro _ w3 ⟨rfl, n3⟩
    (repeat' (first | refine Wl.assignE (by conv => { lhs; whnf }) ?_ | refine Wl.nil ?_ | refine Qseq.normal ?_ | refine Wc.ret ?_ | refine Qseq.ret ?_))
    exact Qfn.ret1 rfl rfl ⟨_, rfl, rfl, n3⟩
  (repeat' (first | refine Wl.moveE (by conv => { lhs; whnf }) ?_ | refine Wl.assignE (by conv => { lhs; whnf }) ?_ | refine Wl.nil ?_ | refine Wl.extract rfl rfl ?_ | refine Qseq.normal ?_ | refine Wc.seq ?_ | refine Wc.region ?_))
  refine Wl.call (NewR_spec (n := sz)) rfl ?_
  rintro r w2 ⟨hr', n2⟩
  rcases hr' with ⟨hr', _⟩ | ⟨_, _, c, rfl, rc⟩
  · omega
  have bo := Bo.make ra n1.size (Chg.refl _ _) rc n2
  have n02 := n1.trans n2
  clear ra rc n1 n2
  (repeat' (first | refine Wl.moveE (by conv => { lhs; whnf }) ?_ | refine Wl.assignE (by conv => { lhs; whnf }) ?_ | refine Wl.nil ?_ | refine Wl.extract rfl rfl ?_ | refine Wl.guardY rfl rfl ?_ | refine Qseq.normal ?_ | refine Wc.seq ?_ | refine Wc.region ?_ | (refine Wl.neq rfl rfl (fun _ => ?_) (fun _ => ?_) <;> (first | (exfalso; omega) | skip))))
  refine Wl.peqNil rfl rfl ?_
  (repeat' (first | refine Wl.moveE (by conv => { lhs; whnf }) ?_ | refine Wl.guardY rfl rfl ?_))
  refine Wl.peqNil rfl rfl ?_
  (try refine Wl.guardY rfl rfl ?_)
  refine Wk.Wl.bneq rfl rfl ?_
  (repeat' (first | refine Wl.moveE (by conv => { lhs; whnf }) ?_ | refine Wl.nil ?_ | refine Wl.pickFE rfl (by conv => { lhs; whnf }) ?_ | refine Qseq.normal ?_ | refine Wc.seq ?_ | refine Wc.region ?_ | refine Wc.skip ?_ | refine Wc.condF rfl ?_))
  refine Wl.peqNil rfl rfl ?_
  (repeat' (first | refine Wl.nil ?_ | refine Qseq.normal ?_ | refine Wc.skip ?_ | refine Wc.condF rfl ?_))
  refine Wk.Wc.cutW [(0, vi sz), (1, .slice a1 l.length cp1), (5, pT a), (7, pT c)] (fun W => New w W ∧ ∃ t : Tr, (t.size : Int) = sz ∧ Bo w a c t t W) ?_ ?_
  · (repeat' (first | refine Wl.assignE (by conv => { lhs; whnf }) ?_ | refine Wl.nil ?_ | refine Qseq.normal ?_ | refine Wc.seq ?_ | refine Wc.region ?_ | refine Wc.block ?_))
    refine Wc.loop (σ := Nat) (fun i => [(0, vi sz), (1, .slice a1 l.length cp1), (5, pT a), (7, pT c), (9, vi i)]) (fun i W => i ≤ l.length ∧ i ≤ 40 ∧ New w W ∧ ∃ t : Tr, (t.size : Int) = sz ∧ Bo w a c t t W) (fun i => l.length - i) 0 ⟨rfl, rfl, rfl, rfl, rfl, trivial⟩ ⟨Nat.zero_le _, Nat.zero_le _, n02, _, by show ((sz.toNat : Nat) : Int) = sz; omega, bo⟩ ?_
    clear bo n02
    rintro i G W ⟨hi, hi2, n0, t, hts, bo⟩
    simp only [upds]
    have z0 := n0.size
    (repeat' (first | refine Wl.moveE (by conv => { lhs; whnf }) ?_ | refine Wl.nil ?_ | refine Wl.guardY rfl rfl ?_ | refine Wl.guardN rfl rfl ?_ | refine Wl.pickTE rfl (by conv => { lhs; whnf }) ?_ | refine Wl.pickFE rfl (by conv => { lhs; whnf }) ?_ | refine Wl.lenS rfl ?_ | refine Qseq.normal ?_ | refine Wc.seq ?_ | refine Wc.region ?_ | refine Wc.block ?_ | refine Wc.skip ?_ | refine Wc.exit ?_ | refine Qseq.exit ?_ | refine Qblk.hit ?_ | refine Qloop.exit ?_ | refine Wc.condT rfl ?_ | refine Wc.condF rfl ?_ | refine Wl.lss rfl rfl (fun _ => ?_) (fun _ => ?_)))
    · obtain ⟨y, hy⟩ := get_lt l (k := i) (by omega)
      obtain ⟨hyw, hyl⟩ := hw y (List.mem_of_getElem? hy)
      refine Wl.idxAddr (h.keep (stable_flat _) n0.keep) rfl rfl (by omega) (by rw [Int.toNat_natCast]; exact hy) fun bb o cs hl hR hat => ?_
      obtain rfl : cs = evC y := hR
      refine Wl.loadAt hat rfl rfl ?_
      refine Wl.alloc fun W2 b2 m2 s2 => ?_
      refine Wl.storeB (o := 0) (new := evC y) b2 rfl rfl rfl rfl (Nat.le_refl 6) (evC_one _) fun W3 b3 c3 s3 => ?_
      replace b3 : Bk W3 W.heap.size 31 (evC y) := b3
      have m03 : New W W3 := Chg.trans m2 c3 fun _ _ e => by omega
      have n03 := n0.trans m03
      have z3 := n03.size
      have e3 := b3.lt
      have hiw := InW.of hyw
      clear b2 m2 c3 s2 s3 hat n0
      (repeat' (first | refine Wl.moveE (by conv => { lhs; whnf }) ?_ | refine Wl.nil ?_ | refine Qseq.normal ?_ | refine Wc.seq ?_ | refine Wc.region ?_ | refine Wl.fieldAddr rfl rfl ?_))
      refine Wl.load1 (u := .int .u64 y.ca) rfl (b3.cell (o := 1) rfl) ?_
      (repeat' (refine Wl.fieldAddr rfl rfl ?_))
      refine Wl.load1 (u := vi y.tm) rfl (b3.cell (o := 2) rfl) ?_
      (repeat' (refine Wl.fieldAddr rfl rfl ?_))
      refine Wl.load1 (u := .int .u8 y.kd) rfl (b3.cell (o := 3) rfl) ?_
      (repeat' (refine Wl.fieldAddr rfl rfl ?_))
      refine Wl.load1 (u := vs y.pa) rfl (b3.cell (o := 4) rfl) ?_
      (repeat' (refine Wl.fieldAddr rfl rfl ?_))
      refine Wl.load1 (u := vi y.ar) rfl (b3.cell (o := 5) rfl) ?_
      refine Wl.call (bo.addP m03 hiw hyl) rfl ?_
      rintro _ W4 ⟨rfl, bo4, c4⟩
      have b4 := b3.chg c4 (by omega)
      have n04 : New w W4 := Chg.trans n03 c4 fun k hk e => by omega
      have hadd : ∀ {W5 : World}, Bo w a c (t.add y.ca y.tm y.kd y.pa y.ar).2.2 t W5 → Calls Tryd.prog 25 #[pT c, .int .u64 y.ca, vi y.tm, .int .u8 y.kd, vs y.pa, vi y.ar] W5 (Ret fun r W' => r = .tuple #[.int .u64 (t.add y.ca y.tm y.kd y.pa y.ar).1, vi (t.add y.ca y.tm y.kd y.pa y.ar).2.1] ∧ Bo w a c (t.add y.ca y.tm y.kd y.pa y.ar).2.2 (t.add y.ca y.tm y.kd y.pa y.ar).2.2 W' ∧ Chg (fun k => w.heap.size ≤ k ∧ k < W5.heap.size) W5 W') := fun bo5 => bo5.addQ (Chg.refl _ _) hiw hyl
      have hsz := add_size t y.ca y.tm y.kd y.pa y.ar
      generalize t.add y.ca y.tm y.kd y.pa y.ar = ad at *
      obtain ⟨ad1, ad2, t'⟩ := ad
      dsimp only at hadd bo4 hsz ⊢
      clear b3 c4 n03 m03 bo
      (repeat' (first | refine Wl.moveE (by conv => { lhs; whnf }) ?_ | refine Wl.assignE (by conv => { lhs; whnf }) ?_ | refine Wl.nil ?_ | refine Wl.extract rfl rfl ?_ | refine Qseq.normal ?_ | refine Wc.seq ?_ | refine Wc.region ?_ | refine Wl.fieldAddr rfl rfl ?_))
      refine Wl.load1 (u := .int .u64 y.ca) rfl (b4.cell (o := 1) rfl) ?_
      (repeat' (refine Wl.fieldAddr rfl rfl ?_))
      refine Wl.load1 (u := vi y.tm) rfl (b4.cell (o := 2) rfl) ?_
      (repeat' (refine Wl.fieldAddr rfl rfl ?_))
      refine Wl.load1 (u := .int .u8 y.kd) rfl (b4.cell (o := 3) rfl) ?_
      (repeat' (refine Wl.fieldAddr rfl rfl ?_))
      refine Wl.load1 (u := vs y.pa) rfl (b4.cell (o := 4) rfl) ?_
      (repeat' (refine Wl.fieldAddr rfl rfl ?_))
      refine Wl.load1 (u := vi y.ar) rfl (b4.cell (o := 5) rfl) ?_
      refine Wl.call (hadd bo4) rfl ?_
      rintro _ W5 ⟨rfl, bo5, c5⟩
      (repeat' (first | refine Wl.moveE (by conv => { lhs; whnf }) ?_ | refine Wl.assignE (by conv => { lhs; whnf }) ?_ | refine Wl.nil ?_ | refine Wl.extract rfl rfl ?_ | refine Wl.guardY rfl rfl ?_ | refine Wl.pickFE rfl (by conv => { lhs; whnf }) ?_ | refine Qseq.normal ?_ | refine Wc.seq ?_ | refine Wc.region ?_ | refine Wc.skip ?_ | refine Qblk.normal ?_ | refine Wc.condF rfl ?_ | refine Wl.add rfl rfl (by omega) (by omega) ?_ | (refine Wl.neq rfl rfl (fun _ => ?_) (fun _ => ?_) <;> (first | (exfalso; omega) | skip))))
      exact Qloop.normal (i + 1) ⟨rfl, rfl, rfl, rfl, rfl, trivial⟩ ⟨by omega, by omega, Chg.trans n04 c5 fun k hk e => by omega, t', by rw [hsz]; exact hts, bo5⟩ (by omega)
    all_goals exact ⟨rfl, ⟨rfl, rfl, rfl, rfl, trivial⟩, n0, t, hts, bo⟩
  clear bo n02
  rintro G1 w3 ⟨n03, t, hts, bo⟩
  simp only [upds]
  have hok := bo.ok
  have z3 := n03.size
  (repeat' (first | refine Wl.moveE (by conv => { lhs; whnf }) ?_ | refine Wc.seq ?_ | refine Wc.region ?_))
  refine Wl.call (bo.looks (ht.new n03)) rfl ?_
  rintro _ w4 ⟨rfl, m4⟩
  have n04 := n03.trans m4
  replace bo := bo.new m4
  clear n03 m4
  obtain ⟨A, rg⟩ := bo.rg
  obtain ⟨B, rf⟩ := bo.rf
  obtain ⟨hls1, hls2⟩ := lines_small hok
  (repeat' (first | refine Wl.moveE (by conv => { lhs; whnf }) ?_ | refine Wl.nil ?_ | refine Wl.notB rfl ?_ | refine Qseq.normal ?_ | refine Wc.seq ?_ | refine Wc.region ?_ | refine Wc.skip ?_ | refine Wc.condF rfl ?_))
  refine Wl.call (Lines_spec (ht.new n04) rg) rfl ?_
  rintro v5 w5 ⟨o5, n5⟩
  have n05 := n04.trans n5
  (repeat' (refine Wl.moveE (by conv => { lhs; whnf }) ?_))
  refine Wl.call (Read_spec (n := sz) (ht.new n05) (hE.new n05) (o5.rd goodS.mo) hls1 hls2) rfl ?_
  rintro r w6 ⟨hr, n6⟩
  rcases hr with ⟨_, hno⟩ | ⟨a2, u, rfl, huk, hus, hul, ru⟩
  · exact absurd rfl (hno t hok hts)
  have e := lines_inj huk hok (by omega) hul
  subst e
  have n06 := n05.trans n6
  have rf6 := rf.new (n5.trans n6)
  have bo5 := bo.new n5
  clear hul huk hus o5
  (repeat' (first | refine Wl.moveE (by conv => { lhs; whnf }) ?_ | refine Wl.assignE (by conv => { lhs; whnf }) ?_ | refine Wl.nil ?_ | refine Wl.extract rfl rfl ?_ | refine Qseq.normal ?_ | refine Wc.seq ?_ | refine Wc.region ?_))
  refine Wl.call (LinesR_spec (ht.new n06) rf6) rfl ?_
  rintro v7 w7 ⟨o7, n7⟩
  have n07 := n06.trans n7
  (repeat' (refine Wl.moveE (by conv => { lhs; whnf }) ?_))
  refine Wl.call (ReadR_spec (n := sz) (ht.new n07) (hE.new n07) (o7.rd goodS.mo) hls1 hls2) rfl ?_
  rintro r w8 ⟨hr, n8⟩
  rcases hr with ⟨_, hno⟩ | ⟨c2, u2, rfl, huk, hus, hul, rv⟩
  · exact absurd rfl (hno u hok hts)
  have e := lines_inj huk hok (by omega) hul
  subst e
  have n08 := n07.trans n8
  have bo2 := Bo.make ru n6.size n7 rv n8
  have m58 := (n6.trans n7).trans n8
  have z5 := n05.size
  clear hul huk hus o7 rf6 ru rv rg rf bo n6 n7 n8 n5 n06 n07 n04
  (repeat' (first | refine Wl.moveE (by conv => { lhs; whnf }) ?_ | refine Wl.assignE (by conv => { lhs; whnf }) ?_ | refine Wl.nil ?_ | refine Wl.extract rfl rfl ?_ | refine Wl.guardY rfl rfl ?_ | refine Qseq.normal ?_ | refine Wc.seq ?_ | refine Wc.region ?_ | (refine Wl.neq rfl rfl (fun _ => ?_) (fun _ => ?_) <;> (first | (exfalso; omega) | skip))))
  refine Wl.peqNil rfl rfl ?_
  (repeat' (first | refine Wl.moveE (by conv => { lhs; whnf }) ?_ | refine Wl.guardY rfl rfl ?_))
  refine Wl.peqNil rfl rfl ?_
  (try refine Wl.guardY rfl rfl ?_)
  refine Wk.Wl.bneq rfl rfl ?_
  (repeat' (first | refine Wl.nil ?_ | refine Wl.pickFE rfl (by conv => { lhs; whnf }) ?_ | refine Qseq.normal ?_ | refine Wc.skip ?_ | refine Wc.condF rfl ?_))
  refine Wk.Wc.cutW [(0, vi sz), (1, .slice a1 l.length cp1), (5, pT a), (7, pT c), (15, pT a2), (17, pT c2)] (fun W => New w W ∧ Bo w a c u2 u2 W ∧ ∃ t : Tr, Bo w5 a2 c2 t t W) ?_ ?_
  · (repeat' (first | refine Wl.assignE (by conv => { lhs; whnf }) ?_ | refine Wl.nil ?_ | refine Qseq.normal ?_ | refine Wc.seq ?_ | refine Wc.region ?_ | refine Wc.block ?_))
    refine Wc.loop (σ := Nat) (fun i => [(0, vi sz), (1, .slice a1 l.length cp1), (5, pT a), (7, pT c), (15, pT a2), (17, pT c2), (19, vi i)]) (fun i W => i ≤ l.length ∧ i ≤ 5 ∧ New w5 W ∧ ∃ t : Tr, Bo w5 a2 c2 t t W) (fun i => l.length - i) 0 ⟨rfl, rfl, rfl, rfl, rfl, rfl, rfl, trivial⟩ ⟨Nat.zero_le _, Nat.zero_le _, m58, _, bo2⟩ ?_
    clear bo2
    rintro i G W ⟨hi, hi2, n5, t, bo⟩
    simp only [upds]
    have n0 := n05.trans n5
    have z0 := n5.size
    have fin : New w W ∧ Bo w a c u2 u2 W ∧ ∃ t : Tr, Bo w5 a2 c2 t t W := by
      exact ⟨n0, bo5.new n5, t, bo⟩
    (repeat' (first | refine Wl.moveE (by conv => { lhs; whnf }) ?_ | refine Wc.seq ?_ | refine Wc.region ?_))
    refine Wl.pneNil rfl rfl ?_
    (repeat' (first | refine Wl.moveE (by conv => { lhs; whnf }) ?_ | refine Wl.nil ?_ | refine Wl.guardY rfl rfl ?_ | refine Wl.guardN rfl rfl ?_ | refine Wl.pickTE rfl (by conv => { lhs; whnf }) ?_ | refine Wl.pickFE rfl (by conv => { lhs; whnf }) ?_ | refine Wl.lenS rfl ?_ | refine Qseq.normal ?_ | refine Wc.seq ?_ | refine Wc.region ?_ | refine Wc.block ?_ | refine Wc.skip ?_ | refine Wc.exit ?_ | refine Qseq.exit ?_ | refine Qblk.hit ?_ | refine Qloop.exit ?_ | refine Wc.condT rfl ?_ | refine Wc.condF rfl ?_ | refine Wl.lss rfl rfl (fun _ => ?_) (fun _ => ?_)))
    · obtain ⟨y, hy⟩ := get_lt l (k := i) (by omega)
      obtain ⟨hyw, hyl⟩ := hw y (List.mem_of_getElem? hy)
      refine Wl.idxAddr (h.keep (stable_flat _) n0.keep) rfl rfl (by omega) (by rw [Int.toNat_natCast]; exact hy) fun bb o cs hl hR hat => ?_
      obtain rfl : cs = evC y := hR
      refine Wl.loadAt hat rfl rfl ?_
      refine Wl.alloc fun W2 b2 m2 s2 => ?_
      refine Wl.storeB (o := 0) (new := evC y) b2 rfl rfl rfl rfl (Nat.le_refl 6) (evC_one _) fun W3 b3 c3 s3 => ?_
      replace b3 : Bk W3 W.heap.size 31 (evC y) := b3
      have m03 : New W W3 := Chg.trans m2 c3 fun _ _ e => by omega
      have n03 := n5.trans m03
      have z3 := n03.size
      have e3 := b3.lt
      have hiw := InW.of hyw
      clear b2 m2 c3 s2 s3 hat n0
      (repeat' (first | refine Wl.moveE (by conv => { lhs; whnf }) ?_ | refine Wl.nil ?_ | refine Qseq.normal ?_ | refine Wc.seq ?_ | refine Wc.region ?_ | refine Wl.fieldAddr rfl rfl ?_))
      refine Wl.load1 (u := .int .u64 y.ca) rfl (b3.cell (o := 1) rfl) ?_
      (repeat' (refine Wl.fieldAddr rfl rfl ?_))
      refine Wl.load1 (u := vi y.tm) rfl (b3.cell (o := 2) rfl) ?_
      (repeat' (refine Wl.fieldAddr rfl rfl ?_))
      refine Wl.load1 (u := .int .u8 y.kd) rfl (b3.cell (o := 3) rfl) ?_
      (repeat' (refine Wl.fieldAddr rfl rfl ?_))
      refine Wl.load1 (u := vs y.pa) rfl (b3.cell (o := 4) rfl) ?_
      (repeat' (refine Wl.fieldAddr rfl rfl ?_))
      refine Wl.load1 (u := vi y.ar) rfl (b3.cell (o := 5) rfl) ?_
      refine Wl.call (bo.addP m03 hiw hyl) rfl ?_
      rintro _ W4 ⟨rfl, bo4, c4⟩
      have b4 := b3.chg c4 (by omega)
      have n04 : New w5 W4 := Chg.trans n03 c4 fun k hk e => by omega
      have hadd : ∀ {W5 : World}, Bo w5 a2 c2 (t.add y.ca y.tm y.kd y.pa y.ar).2.2 t W5 → Calls Tryd.prog 25 #[pT c2, .int .u64 y.ca, vi y.tm, .int .u8 y.kd, vs y.pa, vi y.ar] W5 (Ret fun r W' => r = .tuple #[.int .u64 (t.add y.ca y.tm y.kd y.pa y.ar).1, vi (t.add y.ca y.tm y.kd y.pa y.ar).2.1] ∧ Bo w5 a2 c2 (t.add y.ca y.tm y.kd y.pa y.ar).2.2 (t.add y.ca y.tm y.kd y.pa y.ar).2.2 W' ∧ Chg (fun k => w5.heap.size ≤ k ∧ k < W5.heap.size) W5 W') := fun bo5 => bo5.addQ (Chg.refl _ _) hiw hyl
      generalize t.add y.ca y.tm y.kd y.pa y.ar = ad at *
      obtain ⟨ad1, ad2, t'⟩ := ad
      dsimp only at hadd bo4 ⊢
      clear b3 c4 n03 m03 bo fin
      (repeat' (first | refine Wl.moveE (by conv => { lhs; whnf }) ?_ | refine Wl.assignE (by conv => { lhs; whnf }) ?_ | refine Wl.nil ?_ | refine Wl.extract rfl rfl ?_ | refine Qseq.normal ?_ | refine Wc.seq ?_ | refine Wc.region ?_ | refine Wl.fieldAddr rfl rfl ?_))
      refine Wl.load1 (u := .int .u64 y.ca) rfl (b4.cell (o := 1) rfl) ?_
      (repeat' (refine Wl.fieldAddr rfl rfl ?_))
      refine Wl.load1 (u := vi y.tm) rfl (b4.cell (o := 2) rfl) ?_
      (repeat' (refine Wl.fieldAddr rfl rfl ?_))
      refine Wl.load1 (u := .int .u8 y.kd) rfl (b4.cell (o := 3) rfl) ?_
      (repeat' (refine Wl.fieldAddr rfl rfl ?_))
      refine Wl.load1 (u := vs y.pa) rfl (b4.cell (o := 4) rfl) ?_
      (repeat' (refine Wl.fieldAddr rfl rfl ?_))
      refine Wl.load1 (u := vi y.ar) rfl (b4.cell (o := 5) rfl) ?_
      refine Wl.call (hadd bo4) rfl ?_
      rintro _ W5 ⟨rfl, bo5, c5⟩
      (repeat' (first | refine Wl.moveE (by conv => { lhs; whnf }) ?_ | refine Wl.assignE (by conv => { lhs; whnf }) ?_ | refine Wl.nil ?_ | refine Wl.extract rfl rfl ?_ | refine Wl.guardY rfl rfl ?_ | refine Wl.pickFE rfl (by conv => { lhs; whnf }) ?_ | refine Qseq.normal ?_ | refine Wc.seq ?_ | refine Wc.region ?_ | refine Wc.skip ?_ | refine Qblk.normal ?_ | refine Wc.condF rfl ?_ | refine Wl.add rfl rfl (by omega) (by omega) ?_ | (refine Wl.neq rfl rfl (fun _ => ?_) (fun _ => ?_) <;> (first | (exfalso; omega) | skip))))
      exact Qloop.normal (i + 1) ⟨rfl, rfl, rfl, rfl, rfl, rfl, rfl, trivial⟩ ⟨by omega, by omega, Chg.trans n04 c5 fun k hk e => by omega, t', bo5⟩ (by omega)
    all_goals exact ⟨rfl, ⟨rfl, rfl, rfl, rfl, rfl, rfl, trivial⟩, fin⟩
  clear bo2 bo5
  rintro G2 w9 ⟨n09, bo, t, bo2⟩
  simp only [upds]
  (repeat' (first | refine Wl.moveE (by conv => { lhs; whnf }) ?_ | refine Wc.seq ?_ | refine Wc.region ?_))
  refine Wl.peqNil rfl rfl ?_
  (repeat' (first | refine Wl.moveE (by conv => { lhs; whnf }) ?_ | refine Wl.guardY rfl rfl ?_))
  refine Wl.call (bo2.looks (ht.new n09)) rfl ?_
  rintro _ wa ⟨rfl, na⟩
  have n0a := n09.trans na
  (try refine Wl.guardY rfl rfl ?_)
  (repeat' (first | refine Wl.moveE (by conv => { lhs; whnf }) ?_ | refine Wl.guardY rfl rfl ?_ | refine Wl.pickFE rfl (by conv => { lhs; whnf }) ?_))
  refine Wl.call ((bo.new na).looks (ht.new n0a)) rfl ?_
  rintro _ wb ⟨rfl, nb⟩
  have n0b := n0a.trans nb
  (try refine Wl.guardY rfl rfl ?_)
  (repeat' (first | refine Wl.moveE (by conv => { lhs; whnf }) ?_ | refine Wl.guardY rfl rfl ?_ | refine Wl.pickTE rfl (by conv => { lhs; whnf }) ?_))
  refine Wl.call (awake_spec (ht.new n0b)) rfl ?_
  rintro _ wc ⟨rfl, nc⟩
  (try refine Wl.guardY rfl rfl ?_)
  (repeat' (first | refine Wl.assignE (by conv => { lhs; whnf }) ?_ | refine Wl.nil ?_ | refine Wl.pickTE rfl (by conv => { lhs; whnf }) ?_ | refine Qseq.normal ?_ | refine Wc.ret ?_))
  exact Qfn.ret1 rfl rfl ⟨_, rfl, rfl, n0b.trans nc⟩
end Go.Proofs.YtjaendlcijmifaaDoor

namespace Go.Proofs.YtjaendlcijmifaaDoor
open Go Wk

theorem laidVar_of {P : Program} {w : World} {n : String} {d : DataW Unit} : ∀ {l : List (String × DataW Unit)} {ps : List MemPlace}, DataW.LaidVars P w l ps → (n, d) ∈ l →
    ∃ g t cs fuel p, P.globalNamed n = some g ∧ (P.globals[g]?).map (·.type) = some t ∧ w.var? P n = some cs ∧ DataW.trod (fun _ => ()) P w 0 (fun _ => true) false fuel t cs.toList = some (d, p)
  | [], _, _, h => by cases h
  | (m, e) :: r, ps, hl, h => by
    obtain ⟨g, t, cs, fuel, p, q, h1, h2, h3, h4, h5, _⟩ := hl
    rcases List.mem_cons.1 h with h | h
    · cases h
      exact ⟨g, t, cs, fuel, p, h1, h2, h3, h4⟩
    · exact laidVar_of h5 h
def deB64 : List Int := [0, 1, 56, 2, 57, 49, 28, 3, 61, 58, 42, 50, 38, 29, 17, 4, 62, 47, 59, 36, 45, 43, 51, 22, 53, 39, 33, 30, 24, 18, 12, 5, 63, 55, 48, 27, 60, 41, 37, 16, 46, 35, 44, 21, 52, 32, 23, 11, 54, 26, 40, 15, 34, 20, 31, 10, 25, 14, 19, 9, 13, 8, 7, 6]
theorem tb_of {W : World} {l : List (String × DataW Unit)} (h : laidMet Tryd.prog l W) (hm : ("internal/strconv.uint64pow10", Rows.laid_internal_strconv_uint64pow10) ∈ l) : Tb W := by
  obtain ⟨ps, hl, _⟩ := h
  obtain ⟨g, t, cs, fuel, p, h1, h2, h3, h4⟩ := laidVar_of hl hm
  obtain rfl : 2 = g := Option.some.inj ((show Tryd.prog.globalNamed "internal/strconv.uint64pow10" = some 2 by kernel_rfl).symm.trans h1)
  obtain rfl : 167 = t := Option.some.inj ((show (Tryd.prog.globals[2]?).map (·.type) = some 167 by kernel_rfl).symm.trans h2)
  have hc := Lib.cells_of_tab (zs := Lib.pow10Tab) Tryd.underlying167 Tryd.underlying27 (by kernel_rfl) (by kernel_rfl) h4
  unfold Tb Lib.TabIs
  rw [h3]
  exact congrArg some (Array.ext' hc)
theorem met_of {P : Program} {l : List (String × DataW Unit)} {W : World} (h0 : (l.filter fun x => x.2.handleName?.isSome) = []) (h : laidMetH P l W) : laidMet P l W := by
  unfold laidMetH at h
  rw [h0] at h; exact h
end Go.Proofs.YtjaendlcijmifaaDoor

namespace Go.Proofs.YtjaendlcijmifaaDoor
open Go Wk

theorem bulk_one {H : Type} (d : DataW H) : 1 ≤ Rows.uptoBulk d := by
  cases d with
  | lit l => cases l <;> simp [Rows.uptoBulk]
  | _ => simp [Rows.uptoBulk]
theorem bulk_len {H : Type} (l : List (DataW H)) : l.length ≤ Rows.uptoBulkAll l := by
  induction l with
  | nil => simp [Rows.uptoBulkAll]
  | cons x r ih => have := bulk_one x; simp only [Rows.uptoBulkAll, List.length_cons]; omega
theorem bulk_sl {α : Type} {D : Dat α} {H : Type} {xs : List α} {d : DataW H} (h : datSl D H xs d) : xs.length ≤ Rows.uptoBulk d := by
  rcases h with ⟨rfl, rfl⟩ | ⟨es, sp, rfl, hl, _⟩
  · simp
  · have := bulk_len es
    simp only [Rows.uptoBulk]
    omega
/-- A measure of the elements, added up. -/
theorem bulk_sum {α : Type} {D : Dat α} {H : Type} (μ : α → Nat) (hμ : ∀ x d, D H x d → μ x ≤ Rows.uptoBulk d) : ∀ (xs : List α) (es : List (DataW H)), es.length = xs.length → (∀ (i : Nat) (x : α), xs[i]? = some x → ∃ y, es[i]? = some y ∧ D H x y) → (xs.map μ).sum ≤ Rows.uptoBulkAll es
  | [], es, _, _ => by simp
  | x :: xs, [], h, _ => by simp at h
  | x :: xs, e :: es, h, hd => by
    obtain ⟨y, hy, hD⟩ := hd 0 x rfl
    simp at hy
    subst hy
    have ih := bulk_sum μ hμ xs es (by simpa using h) (fun i x hx => by
      obtain ⟨y, hy, hD⟩ := hd (i + 1) x (by simpa using hx)
      exact ⟨y, by simpa using hy, hD⟩)
    have := hμ x e hD
    simp only [List.map_cons, List.sum_cons, Rows.uptoBulkAll]
    omega
theorem bulk_slsum {α : Type} {D : Dat α} {H : Type} {xs : List α} {d : DataW H} (μ : α → Nat) (hμ : ∀ x d, D H x d → μ x ≤ Rows.uptoBulk d) (h : datSl D H xs d) : (xs.map μ).sum ≤ Rows.uptoBulk d := by
  rcases h with ⟨rfl, rfl⟩ | ⟨es, sp, rfl, hl, hd⟩
  · simp
  · have := bulk_sum μ hμ xs es hl hd
    simp only [Rows.uptoBulk]
    omega
theorem bulk_str {H : Type} (l : List UInt8) (d : DataW H) (h : datStr H l d) : l.length + 1 ≤ Rows.uptoBulk d := by
  obtain ⟨rfl, _⟩ := h
  simp [Rows.uptoBulk]
theorem dat_mem {α : Type} {D : Dat α} {H : Type} {xs : List α} {d : DataW H} (h : datSl D H xs d) {x : α} (hx : x ∈ xs) : ∃ y, D H x y := by
  obtain ⟨i, hi⟩ := List.mem_iff_getElem?.1 hx
  rcases h with ⟨rfl, rfl⟩ | ⟨es, sp, rfl, hl, hd⟩
  · simp at hi
  · obtain ⟨y, _, hD⟩ := hd i x hi
    exact ⟨y, hD⟩
end Go.Proofs.YtjaendlcijmifaaDoor

namespace Go.Proofs.YtjaendlcijmifaaDoor
open Go Wk Go.ChangeShapes

theorem cInt : Tryd.prog.cellsOf 3 = 1 := by kernel_rfl
theorem cStr : Tryd.prog.cellsOf 9 = 1 := by kernel_rfl
theorem cU64 : Tryd.prog.cellsOf 27 = 1 := by kernel_rfl
theorem cI64 : Tryd.prog.cellsOf 2 = 1 := by kernel_rfl
theorem cU8 : Tryd.prog.cellsOf 5 = 1 := by kernel_rfl
theorem cEv : Tryd.prog.cellsOf 31 = 6 := by kernel_rfl
theorem len6 {α : Type} {l : List α} (h : l.length = 6) : ∃ a b c d e f, l = [a, b, c, d, e, f] := by
  match l, h with
  | [a, b, c, d, e, f], _ => exact ⟨a, b, c, d, e, f, rfl⟩
def datEv : Dat Ev := fun H x d => ∃ d0 d1 d2 d3 d4 d5, d = .agg [d0, d1, d2, d3, d4, d5] ∧ datStr H x.pa d4 ∧ EvW x
theorem u64_of {x : Int} (h : (Lit.int .u64 x).wf = true) : ∃ n : Nat, x = n ∧ n < 18446744073709551616 := by
  have h' : 0 ≤ x ∧ x ≤ 18446744073709551615 := by simpa [Lit.wf, IntKind.min, IntKind.max, IntKind.signed, IntKind.bits] using h
  exact ⟨x.toNat, by omega, by omega⟩
theorem u8_of' {x : Int} (h : (Lit.int .u8 x).wf = true) : ∃ n : Nat, x = n ∧ n < 256 := by
  have h' : 0 ≤ x ∧ x ≤ 255 := by simpa [Lit.wf, IntKind.min, IntKind.max, IntKind.signed, IntKind.bits] using h
  exact ⟨x.toNat, by omega, by omega⟩
theorem i64_of {x : Int} (h : (Lit.int .i64 x).wf = true) : -9223372036854775808 ≤ x ∧ x ≤ 9223372036854775807 := by
  simpa [Lit.wf, IntKind.min, IntKind.max, IntKind.signed, IntKind.bits] using h
theorem opens_ev : Opens Tryd.prog 31 rEv datEv := by
  intro H enc w fuel cs d ps h
  obtain ⟨xs, n, rfl, hx, hl, hlen, hf⟩ := DataW.trod_struct Tryd.underlying31 h
  rw [cEv] at hl
  obtain ⟨c0, c1, c2, c3, c4, c5, rfl⟩ := len6 hl
  obtain ⟨y0, y1, y2, y3, y4, y5, rfl⟩ := len6 (show xs.length = 6 from hlen)
  have e0 : DataW.trod enc Tryd.prog w 0 (fun _ => true) true n 27 (([c0, c1, c2, c3, c4, c5].drop 0).take (Tryd.prog.cellsOf 27)) = some y0 := hf 0 _ rfl
  have e1 : DataW.trod enc Tryd.prog w 0 (fun _ => true) true n 27 (([c0, c1, c2, c3, c4, c5].drop 1).take (Tryd.prog.cellsOf 27)) = some y1 := hf 1 _ rfl
  have e2 : DataW.trod enc Tryd.prog w 0 (fun _ => true) true n 2 (([c0, c1, c2, c3, c4, c5].drop 2).take (Tryd.prog.cellsOf 2)) = some y2 := hf 2 _ rfl
  have e3 : DataW.trod enc Tryd.prog w 0 (fun _ => true) true n 5 (([c0, c1, c2, c3, c4, c5].drop 3).take (Tryd.prog.cellsOf 5)) = some y3 := hf 3 _ rfl
  have e4 : DataW.trod enc Tryd.prog w 0 (fun _ => true) true n 9 (([c0, c1, c2, c3, c4, c5].drop 4).take (Tryd.prog.cellsOf 9)) = some y4 := hf 4 _ rfl
  have e5 : DataW.trod enc Tryd.prog w 0 (fun _ => true) true n 2 (([c0, c1, c2, c3, c4, c5].drop 5).take (Tryd.prog.cellsOf 2)) = some y5 := hf 5 _ rfl
  rw [cU64] at e0 e1
  rw [cI64] at e2 e5
  rw [cU8] at e3
  rw [cStr] at e4
  cases hx
  obtain ⟨s0, r0, q0⟩ := opens_int Tryd.underlying27 H enc w n _ _ _ e0
  obtain ⟨s1, r1, q1⟩ := opens_int Tryd.underlying27 H enc w n _ _ _ e1
  obtain ⟨s2, r2, q2⟩ := opens_int Tryd.underlying2 H enc w n _ _ _ e2
  obtain ⟨s3, r3, q3⟩ := opens_int Tryd.underlying5 H enc w n _ _ _ e3
  obtain ⟨s4, r4, q4⟩ := opens_str Tryd.underlying9 H enc w n _ _ _ e4
  obtain ⟨s5, r5, q5⟩ := opens_int Tryd.underlying2 H enc w n _ _ _ e5
  have r0' : [c0] = [Value.int .u64 s0] := r0 (fun _ => True) (fun _ _ => trivial)
  have r1' : [c1] = [Value.int .u64 s1] := r1 (fun _ => True) (fun _ _ => trivial)
  have r2' : [c2] = [Value.int .i64 s2] := r2 (fun _ => True) (fun _ _ => trivial)
  have r3' : [c3] = [Value.int .u8 s3] := r3 (fun _ => True) (fun _ _ => trivial)
  have r4' : [c4] = [vs s4] := r4 (fun _ => True) (fun _ _ => trivial)
  have r5' : [c5] = [Value.int .i64 s5] := r5 (fun _ => True) (fun _ _ => trivial)
  cases r0'
  cases r1'
  cases r2'
  cases r3'
  cases r4'
  cases r5'
  obtain ⟨n0, rfl, h0⟩ := u64_of q0.2
  obtain ⟨n1, rfl, h1⟩ := u64_of q1.2
  obtain ⟨n3, rfl, h3⟩ := u8_of' q3.2
  have h2 := i64_of q2.2
  have h5 := i64_of q5.2
  exact ⟨⟨n0, n1, s2, n3, s4, s5⟩, fun _ _ => rfl, _, _, _, _, _, _, rfl, q4, h0, h1, h2.1, h2.2, h3, h5.1, h5.2⟩
theorem opens_evs : Opens Tryd.prog 22 (Wk.rSl rEv 6) (datSl datEv) := opens_slice Tryd.underlying22 cEv (by decide) opens_ev
theorem bulk_ev {H : Type} (x : Ev) (d : DataW H) (h : datEv H x d) : x.pa.length ≤ Rows.uptoBulk d := by
  obtain ⟨d0, d1, d2, d3, d4, d5, rfl, h4, _⟩ := h
  have b4 := bulk_str x.pa d4 h4
  simp only [Rows.uptoBulk, Rows.uptoBulkAll]
  omega
theorem sum_ge {l : List Nat} {x : Nat} (h : x ∈ l) : x ≤ l.sum := by
  induction l with
  | nil => simp at h
  | cons y r ih =>
    simp only [List.sum_cons]
    rcases List.mem_cons.1 h with rfl | h
    · omega
    · have := ih h; omega
theorem bulk_evs {H : Type} {xs : List Ev} {d : DataW H} (h : datSl datEv H xs d) : ∀ e ∈ xs, EvW e ∧ e.pa.length ≤ Rows.uptoBulk d := fun e he => by
  have h1 := bulk_slsum (fun x : Ev => x.pa.length) (fun x d h => bulk_ev x d h) h
  have h2 := sum_ge (List.mem_map.2 ⟨e, he, rfl⟩ : (fun x : Ev => x.pa.length) e ∈ xs.map fun x : Ev => x.pa.length)
  obtain ⟨y, hy⟩ := dat_mem h he
  obtain ⟨_, _, _, _, _, _, _, _, hw⟩ := hy
  exact ⟨hw, Nat.le_trans h2 h1⟩
end Go.Proofs.YtjaendlcijmifaaDoor

namespace Go.Proofs.YtjaendlcijmifaaDoor
open Go Wk

theorem iface_of_trod {H : Type} {enc : TypeId × Value → H} {P : Program} {w : World} {base : Nat} {sp : Nat → Bool} {held : Bool} {fuel : Nat} {t : TypeId} {ms : Array (String × TypeId)} {cs : List Value} {nm : String} {d : DataW H} {p : List MemPlace}
    (ht : P.underlying t = some (.interface ms)) (h : DataW.trod enc P w base sp held fuel t cs = some (.iface nm d, p)) : ∃ u v, cs = [.iface u v] := by
  cases fuel with
  | zero => simp [DataW.trod] at h
  | succ fuel =>
    simp only [DataW.trod, ht] at h
    split at h <;> first | cases h | exact ⟨_, _, rfl⟩ | simp_all
theorem cell_lt {w : World} {g i : Nat} {v : Value} (h : w.cell? ⟨g, i, none⟩ = some v) : g < w.heap.size := by
  rcases Nat.lt_or_ge g w.heap.size with h1 | h1
  · exact h1
  · simp only [World.cell?] at h
    rw [Array.getElem?_eq_none h1] at h; cases h
theorem errV_of {W : World} {l : List (String × DataW Unit)} (h : laidMet Tryd.prog l W) (hm : ("strconv.ErrRange", Rows.laid_strconv_ErrRange) ∈ l) (hm' : ("strconv.ErrSyntax", Rows.laid_strconv_ErrSyntax) ∈ l) : ErrV W := by
  obtain ⟨ps, hl, _⟩ := h
  rintro g (rfl | rfl)
  · obtain ⟨g, t, cs, fuel, p, h1, h2, h3, h4⟩ := laidVar_of hl hm'
    obtain rfl : 0 = g := Option.some.inj ((show Tryd.prog.globalNamed "strconv.ErrSyntax" = some 0 by kernel_rfl).symm.trans h1)
    obtain rfl : 109 = t := Option.some.inj ((show (Tryd.prog.globals[0]?).map (·.type) = some 109 by kernel_rfl).symm.trans h2)
    obtain ⟨u, v, hc⟩ := iface_of_trod Tryd.underlying109 h4
    have h5 := World.var?_cell h1 h3 0
    rw [← Array.getElem?_toList, hc] at h5
    exact ⟨cell_lt h5, u, v, h5⟩
  · obtain ⟨g, t, cs, fuel, p, h1, h2, h3, h4⟩ := laidVar_of hl hm
    obtain rfl : 1 = g := Option.some.inj ((show Tryd.prog.globalNamed "strconv.ErrRange" = some 1 by kernel_rfl).symm.trans h1)
    obtain rfl : 109 = t := Option.some.inj ((show (Tryd.prog.globals[1]?).map (·.type) = some 109 by kernel_rfl).symm.trans h2)
    obtain ⟨u, v, hc⟩ := iface_of_trod Tryd.underlying109 h4
    have h5 := World.var?_cell h1 h3 0
    rw [← Array.getElem?_toList, hc] at h5
    exact ⟨cell_lt h5, u, v, h5⟩
theorem len_le_sum {l : List (List UInt8)} {s : List UInt8} (h : s ∈ l) : s.length + 1 ≤ (l.map fun l : List UInt8 => l.length + 1).sum := by
  induction l with
  | nil => cases h
  | cons x l ih =>
    rw [List.map_cons, List.sum_cons]
    rcases List.mem_cons.1 h with rfl | h
    · omega
    · have := ih h; omega
end Go.Proofs.YtjaendlcijmifaaDoor
