/-
  Texts of this claim, one behind the other: Hc, Hd, He, Ea, Ga, Go, Ec, Hg, Hs, Gr, Hv, Hl.
-/
import Derived.Test.YtlkhajheecglgaaDoorZd
import Derived.ChangeSame
import Derived.SizedLaws
namespace Go.Proofs.YtlkhajheecglgaaDoor
open Go Wk
open Go.RowKit (Below)
attribute [local irreducible] Go.Calls

theorem cell_quo (n : Nat) (h : n ≤ 4000000000) : [(0, Value.int .u8 (IntKind.u8.wrap (IntKind.i64.wrap ((n : Int).tdiv 16777216)))), (1, Value.int .u8 (IntKind.u8.wrap (IntKind.i64.wrap ((n : Int).tdiv 65536)))), (2, Value.int .u8 (IntKind.u8.wrap (IntKind.i64.wrap ((n : Int).tdiv 256)))), (3, Value.int .u8 (IntKind.u8.wrap (n : Int)))] = numb 0 ((cell4 n).map by8) := by
  have hu : ∀ k : Nat, IntKind.u8.wrap (k : Int) = ((UInt8.ofNat k).toNat : Int) := fun k => by rw [UInt8.toNat_ofNat', IntKind.wrap_u8]; omega
  have hi : ∀ k : Nat, k ≤ 4000000000 → IntKind.i64.wrap (k : Int) = k := fun k hk => by rw [IntKind.wrap_i64]; omega
  have hd : ∀ k : Nat, (n : Int).tdiv (k : Int) = ((n / k : Nat) : Int) := fun k => rfl
  have h1 : (n : Int).tdiv 16777216 = _ := hd 16777216
  have h2 : (n : Int).tdiv 65536 = _ := hd 65536
  have h3 : (n : Int).tdiv 256 = _ := hd 256
  rw [h1, h2, h3, hi _ (Nat.le_trans (Nat.div_le_self _ _) h), hi _ (Nat.le_trans (Nat.div_le_self _ _) h), hi _ (Nat.le_trans (Nat.div_le_self _ _) h), hu, hu, hu, hu]
  rfl
theorem cellR_spec {w : World} {n : Nat} (h : n ≤ 4000000000) : Calls Tryd.prog 33 #[vi n] w (Ret fun r w' => r = vs (cell4 n) ∧ New w w') := by
  refine calls_of_Wc Tryd.func33 rfl Tryd.ntmps33 rfl ?_
  (repeat' (first | refine Wl.moveE (by conv => { lhs; whnf }) ?_ | refine Wl.assignE (by conv => { lhs; whnf }) ?_ | refine Wl.nil ?_ | refine Qseq.normal ?_ | refine Wc.seq ?_ | refine Wc.region ?_))
  refine Wl.quoW rfl rfl (by omega) ?_
  (repeat' (first | refine Wl.moveE (by conv => { lhs; whnf }) ?_ | refine Wl.convI rfl ?_))
  refine Wl.quoW rfl rfl (by omega) ?_
  (repeat' (first | refine Wl.moveE (by conv => { lhs; whnf }) ?_ | refine Wl.convI rfl ?_))
  refine Wl.quoW rfl rfl (by omega) ?_
  (repeat' (first | refine Wl.moveE (by conv => { lhs; whnf }) ?_ | refine Wl.convI rfl ?_))
  refine Wl.buildSliceN (R := one by8) (N := 4) (ps := [(0, .tmp 5), (1, .tmp 8), (2, .tmp 11), (3, .tmp 13)]) (xs := cell4 n) (us := (cell4 n).map by8) (Pe := No8) goodR8 rfl (cell_quo n h) ⟨rfl, rfl, rfl, rfl, rfl, rfl, rfl, rfl, trivial⟩ (by simp [cell4]) (by simp [cell4]) fun v1 w1 o1 n1 s1 ob1 => ?_
  refine Wl.bytesStr (o1.rd mono8) rfl ?_
  (repeat' (first | refine Wl.assignE (by conv => { lhs; whnf }) ?_ | refine Wl.nil ?_ | refine Qseq.normal ?_ | refine Wc.ret ?_))
  exact Qfn.ret1 rfl rfl ⟨_, rfl, rfl, n1⟩
theorem filledR_spec {w : World} {s : List UInt8} (hs : s.length ≤ 100000000000) : Calls Tryd.prog 49 #[vs s] w (Ret fun r w' => r = vs (fil s) ∧ New w w') := by
  refine calls_of_Wc Tryd.func49 rfl Tryd.ntmps49 rfl ?_
  (repeat' (first | refine Wl.assignE (by conv => { lhs; whnf }) ?_ | refine Wl.nil ?_ | refine Qseq.normal ?_ | refine Wc.seq ?_ | refine Wc.region ?_ | refine Wc.block ?_))
  refine Wc.loop (σ := Nat) (fun k => [(0, vs (s ++ List.replicate k 0))]) (fun k w' => k ≤ (4 - s.length % 4) % 4 ∧ New w w') (fun k => 4 - k) 0 ⟨by rw [List.replicate_zero, List.append_nil]; rfl, trivial⟩ ⟨Nat.zero_le _, Chg.refl _ _⟩ ?_
  rintro k G w2 ⟨hk, n2⟩
  simp only [upds]
  have hp := pad_step s.length k hk
  have hlen : (s ++ List.replicate k (0 : UInt8)).length = s.length + k := by simp
  (repeat' (first | refine Wl.moveE (by conv => { lhs; whnf }) ?_ | refine Wl.lenStr rfl ?_ | refine Wc.seq ?_ | refine Wc.region ?_))
  rw [hlen]
  refine Wl.remW rfl rfl (by omega) ?_
  refine Wl.neq rfl rfl (fun hne => ?_) (fun he => ?_)
  · have hk2 : k < (4 - s.length % 4) % 4 := by have : ¬ k = _ := fun e => hne (hp.2 e); omega
    (repeat' (first | refine Wl.moveE (by conv => { lhs; whnf }) ?_ | refine Wl.nil ?_ | refine Qseq.normal ?_ | refine Wc.region ?_ | refine Wc.block ?_ | refine Wc.skip ?_ | refine Wc.condT rfl ?_))
    refine Wl.sadd rfl (b := [0]) rfl (by rw [hlen]; simp only [List.length_singleton]; omega) ?_
    (repeat' (first | refine Wl.assignE (by conv => { lhs; whnf }) ?_ | refine Wl.nil ?_ | refine Qblk.normal ?_))
    refine Qloop.normal (k + 1) ⟨?_, trivial⟩ ⟨by omega, n2⟩ (by omega)
    show vs _ = vs _
    rw [List.replicate_succ', ← List.append_assoc]
  · have hk2 := hp.1 he
    (repeat' (first | refine Wl.moveE (by conv => { lhs; whnf }) ?_ | refine Wl.assignE (by conv => { lhs; whnf }) ?_ | refine Wl.nil ?_ | refine Qseq.normal ?_ | refine Wc.seq ?_ | refine Wc.region ?_ | refine Wc.exit ?_ | refine Wc.ret ?_ | refine Qseq.exit ?_ | refine Qblk.hit ?_ | refine Qloop.exit ?_ | refine Wc.condF rfl ?_))
    refine Qfn.ret1 rfl rfl ⟨_, rfl, ?_, n2⟩
    unfold fil
    rw [← hk2]; rfl
set_option maxRecDepth 4000 in
set_option maxHeartbeats 1000000 in
theorem namesR_spec {Pb : Nat → Prop} {w : World} {v : Value} {l : List Nd} (h : RdS rNd 3 Pb w v l) (hp : ∀ x ∈ l, propsOk x.props = true) (hl : l.length ≤ 512) :
    Calls Tryd.prog 34 #[v] w (Ret fun r w' => OwnS (one vs) 9 1 (Up w) No8 w' r (namesN [] l) ∧ New w w') := by
  obtain ⟨a, cap, rfl, hc1, hc2⟩ := h.form
  replace h := h.mono monoNd (Pb' := fun b => b < w.heap.size) fun b hb _ => hb
  refine calls_of_Wc Tryd.func34 rfl Tryd.ntmps34 rfl ?_
  (repeat' (first | refine Wl.assignE (by conv => { lhs; whnf }) ?_ | refine Wl.nil ?_ | refine Qseq.normal ?_ | refine Wc.seq ?_ | refine Wc.region ?_ | refine Wc.block ?_))
  refine Wc.loop (σ := Nat × Value) (fun s => [(0, .slice a l.length cap), (3, s.2), (4, vi s.1)]) (fun s w' => s.1 ≤ l.length ∧ OwnS (one vs) 9 1 (Up w) No8 w' s.2 (namesN [] (l.take s.1)) ∧ New w w') (fun s => l.length - s.1) (0, .slice none 0 0) ⟨rfl, rfl, rfl, trivial⟩ ⟨Nat.zero_le _, OwnS.nil, Chg.refl _ _⟩ ?_
  rintro ⟨i, vo⟩ G w1 ⟨hi, o1, n1⟩
  dsimp only at hi o1 n1
  simp only [upds]
  (repeat' (first | refine Wl.moveE (by conv => { lhs; whnf }) ?_ | refine Wl.assignE (by conv => { lhs; whnf }) ?_ | refine Wl.nil ?_ | refine Wl.lenS rfl ?_ | refine Qseq.normal ?_ | refine Wc.seq ?_ | refine Wc.region ?_ | refine Wc.block ?_ | refine Wc.skip ?_ | refine Wc.exit ?_ | refine Wc.ret ?_ | refine Qseq.exit ?_ | refine Qblk.hit ?_ | refine Qloop.exit ?_ | refine Wc.condT rfl ?_ | refine Wc.condF rfl ?_ | refine Wl.lss rfl rfl (fun _ => ?_) (fun _ => ?_)))
  · obtain ⟨x, hx⟩ := get_lt l (k := i) (by omega)
    have hps := propsOk_all (hp x (List.mem_of_getElem? hx))
    have hps1 := hps.1
    refine Wc.loop (σ := Nat × Value) (fun s => [(0, .slice a l.length cap), (3, s.2), (4, vi i), (5, vi s.1)]) (fun s w' => s.1 ≤ x.props.length ∧ OwnS (one vs) 9 1 (Up w) No8 w' s.2 (namesP (namesN [] (l.take i)) (x.props.take s.1)) ∧ New w w') (fun s => x.props.length - s.1) (0, vo) ⟨rfl, rfl, rfl, rfl, trivial⟩ ⟨Nat.zero_le _, o1, n1⟩ ?_
    clear o1 n1
    rintro ⟨j, vo⟩ G w2 ⟨hj, o2, n2⟩
    dsimp only at hj o2 n2
    obtain ⟨oa, oc, rfl, ho1, ho2⟩ := o2.form
    have h2 := h.keep stableNd n2.keep
    simp only [upds]
    (repeat' (first | refine Wl.moveE (by conv => { lhs; whnf }) ?_ | refine Wc.seq ?_ | refine Wc.region ?_))
    refine Wl.idxAddr h2 rfl rfl (by omega) hx fun b o cs hcl hR hat => ?_
    obtain ⟨pv, rfl, hpr⟩ := hR
    obtain ⟨pa, pc, rfl, _, hpm⟩ := hpr.form
    (repeat' (refine Wl.fieldAddr rfl rfl ?_))
    refine Wl.load1 rfl (hat.get 2 rfl) ?_
    clear hat
    (repeat' (first | refine Wl.moveE (by conv => { lhs; whnf }) ?_ | refine Wl.assignE (by conv => { lhs; whnf }) ?_ | refine Wl.nil ?_ | refine Wl.lenS rfl ?_ | refine Qseq.normal ?_ | refine Wc.seq ?_ | refine Wc.region ?_ | refine Wc.block ?_ | refine Wc.skip ?_ | refine Wc.exit ?_ | refine Qseq.exit ?_ | refine Qblk.normal ?_ | refine Qblk.hit ?_ | refine Qloop.exit ?_ | refine Wc.condT rfl ?_ | refine Wc.condF rfl ?_ | refine Wl.add rfl rfl (by omega) (by omega) ?_ | refine Wl.lss rfl rfl (fun _ => ?_) (fun _ => ?_)))
    · obtain ⟨q, hq⟩ := get_lt x.props (k := j) (by omega)
      have hsz := names_part hp hx (j := j)
      have hln := len_size (namesP (namesN [] (l.take i)) (x.props.take j))
      have hsn := namesP_snoc hq (namesN [] (l.take i))
      generalize namesP (namesN [] (l.take i)) (x.props.take j) = all at *
      refine Wc.loop (σ := Nat) (fun k => [(0, .slice a l.length cap), (3, .slice oa all.length oc), (4, vi i), (5, vi j), (6, vi k)]) (fun k w' => k ≤ all.length ∧ q.1 ∉ all.take k ∧ OwnS (one vs) 9 1 (Up w) No8 w' (.slice oa all.length oc) all ∧ New w w') (fun k => all.length - k) 0 ⟨rfl, rfl, rfl, rfl, rfl, trivial⟩ ⟨Nat.zero_le _, by simp, o2, n2⟩ ?_
      clear o2 n2 hpr h2
      rintro k G w3 ⟨hk, hno, o3, n3⟩
      have h3 := h.keep stableNd n3.keep
      simp only [upds]
      (repeat' (refine Wc.seq ?_))
      refine Wc.regionN rfl (by kernel_rfl) ?_
      (repeat' (first | refine Wq.moveE (by conv => { lhs; whnf }) ?_ | refine Wq.nil ?_ | refine Wq.guardY rfl rfl ?_ | refine Wq.guardN rfl rfl ?_ | refine Wq.pickFE rfl (by conv => { lhs; whnf }) ?_ | refine Wq.lenS rfl ?_ | refine Wq.lss rfl rfl (fun _ => ?_) (fun _ => ?_)))
      · obtain ⟨s, hs⟩ := get_lt all (k := k) (by omega)
        refine Wq.idxAddr (o3.rd (mono_one _)) (fun w' hw => New.keep hw) rfl rfl (by omega) hs fun b o cs hl hR hat => ?_
        obtain rfl : cs = [vs s] := hR
        (repeat' (refine Wq.guardY rfl rfl ?_))
        refine Wq.load1 rfl (fun w' hw => (hat w' hw).get 0 rfl) ?_
        clear hat
        (repeat' (first | refine Wq.moveE (by conv => { lhs; whnf }) ?_ | refine Wq.guardY rfl rfl ?_))
        refine Wq.idxAddr h3 (fun w' hw => New.keep hw) rfl rfl (by omega) hx fun b o cs hl hR hat => ?_
        obtain ⟨pv, rfl, hpr⟩ := hR
        obtain ⟨pa, pc, rfl, _, hpm⟩ := hpr.form
        (repeat' (first | refine Wq.guardY rfl rfl ?_ | refine Wq.fieldAddr rfl rfl ?_))
        refine Wq.load1 rfl (fun w' hw => (hat w' hw).get 2 rfl) ?_
        clear hat
        (repeat' (first | refine Wq.moveE (by conv => { lhs; whnf }) ?_ | refine Wq.guardY rfl rfl ?_))
        refine Wq.idxAddr hpr (fun w' hw => New.keep hw) rfl rfl (by omega) hq fun b o cs hl hR hat => ?_
        obtain rfl : cs = pC q := hR
        (repeat' (first | refine Wq.guardY rfl rfl ?_ | refine Wq.fieldAddr rfl rfl ?_))
        refine Wq.load1 rfl (fun w' hw => (hat w' hw).get 0 rfl) ?_
        clear hat
        (repeat' (first | refine Wq.nil ?_ | refine Wq.guardY rfl rfl ?_ | refine Wq.pickTE rfl (by conv => { lhs; whnf }) ?_ | refine Wq.sneq rfl rfl (fun _ => ?_) (fun _ => ?_)))
        · intro w4 n4
          (repeat' (first | refine Wl.moveE (by conv => { lhs; whnf }) ?_ | refine Wl.assignE (by conv => { lhs; whnf }) ?_ | refine Wl.nil ?_ | refine Qseq.normal ?_ | refine Wc.region ?_ | refine Wc.block ?_ | refine Wc.skip ?_ | refine Qblk.normal ?_ | refine Wc.condT rfl ?_ | refine Wl.add rfl rfl (by omega) (by omega) ?_))
          refine Qloop.normal (k + 1) ⟨rfl, rfl, rfl, rfl, rfl, trivial⟩ ⟨by omega, ?_, o3.new (plain_one _) n4, New.trans n3 n4⟩ (by omega)
          rw [take_snoc hs, List.mem_append, List.mem_singleton]
          rintro (e | e)
          · exact hno e
          · first | exact absurd e.symm (by assumption) | exact absurd e (by assumption)
        · intro w4 n4
          (repeat' (first | refine Wl.moveE (by conv => { lhs; whnf }) ?_ | refine Wl.assignE (by conv => { lhs; whnf }) ?_ | refine Wl.nil ?_ | refine Wl.lenS rfl ?_ | refine Qseq.normal ?_ | refine Wc.seq ?_ | refine Wc.region ?_ | refine Wc.skip ?_ | refine Wc.exit ?_ | refine Qseq.exit ?_ | refine Qblk.normal ?_ | refine Qblk.hit ?_ | refine Qloop.exit ?_ | refine Wc.condF rfl ?_ | refine Wl.add rfl rfl (by omega) (by omega) ?_ | (refine Wl.eql rfl rfl (fun _ => ?_) (fun _ => ?_) <;> (first | (exfalso; omega) | skip))))
          have hsq : q.1 = s := by first | assumption | exact Eq.symm (by assumption)
          rw [addNm_in (by rw [hsq]; exact List.mem_of_getElem? hs)] at hsn
          refine Qloop.normal (j + 1, .slice oa all.length oc) ⟨rfl, rfl, rfl, rfl, trivial⟩ ⟨by dsimp only; omega, ?_, New.trans n3 n4⟩ (by dsimp only; omega)
          dsimp only
          rw [hsn]
          exact o3.new (plain_one _) n4
      · intro w4 n4
        have e : k = all.length := by omega
        subst e
        rw [List.take_length] at hno
        rw [addNm_out hno] at hsn
        have n04 := New.trans n3 n4
        have o4 := o3.new (plain_one _) n4
        (repeat' (first | refine Wl.moveE (by conv => { lhs; whnf }) ?_ | refine Wl.nil ?_ | refine Wl.lenS rfl ?_ | refine Qseq.normal ?_ | refine Wc.seq ?_ | refine Wc.region ?_ | refine Wc.exit ?_ | refine Qseq.exit ?_ | refine Qblk.hit ?_ | refine Qloop.exit ?_ | refine Wc.condT rfl ?_ | refine Wc.condF rfl ?_ | (refine Wl.eql rfl rfl (fun _ => ?_) (fun _ => ?_) <;> (first | (exfalso; omega) | skip))))
        refine Wl.idxAddr (h.keep stableNd n04.keep) rfl rfl (by omega) hx fun b o cs hcl hR hat => ?_
        obtain ⟨pv, rfl, hpr⟩ := hR
        obtain ⟨pa, pc, rfl, _, hpm⟩ := hpr.form
        (repeat' (refine Wl.fieldAddr rfl rfl ?_))
        refine Wl.load1 rfl (hat.get 2 rfl) ?_
        clear hat
        (repeat' (refine Wl.moveE (by conv => { lhs; whnf }) ?_))
        refine Wl.idxAddr hpr rfl rfl (by omega) hq fun b o cs hl hR hat => ?_
        obtain rfl : cs = pC q := hR
        (repeat' (refine Wl.fieldAddr rfl rfl ?_))
        refine Wl.load1 rfl (hat.get 0 rfl) ?_
        clear hat
        refine Wl.buildSlice1 (R := one vs) (y := q.1) (Pe := No8) goodVs rfl rfl rfl rfl (by omega) (by omega) fun mv w5 oM n5 s5 hob5 => ?_
        refine Wl.appendAll goodVs (o4.new (plain_one _) n5) (oM.rd (mono_one _)) (fun y cs hy => hy) rfl rfl (by omega) (by simp only [maxLen, List.length_singleton]; omega) (by simp only [List.length_singleton]; omega) fun vo' w6 o6 c6 lie _ => ?_
        have n05 := New.trans n04 n5
        have z5 := n05.size
        (repeat' (first | refine Wl.moveE (by conv => { lhs; whnf }) ?_ | refine Wl.assignE (by conv => { lhs; whnf }) ?_ | refine Wl.nil ?_ | refine Qseq.normal ?_ | refine Wc.region ?_ | refine Qblk.normal ?_ | refine Wl.add rfl rfl (by omega) (by omega) ?_))
        refine Qloop.normal (j + 1, vo') ⟨rfl, rfl, rfl, rfl, trivial⟩ ⟨by dsimp only; omega, ?_, Chg.trans n05 c6 fun b hb e => by have : w.heap.size ≤ b := (o4.lt e).1; omega⟩ (by dsimp only; omega)
        dsimp only
        rw [hsn]
        exact o6.mono (mono_one _) (fun b hb e => by rcases e with e | e; exact e; show w.heap.size ≤ b; omega) (fun _ _ e => e)
    · have e : j = x.props.length := by omega
      subst e
      skip
      refine Qloop.normal (i + 1, _) ⟨rfl, rfl, rfl, trivial⟩ ⟨by dsimp only; omega, ?_, n2⟩ (by dsimp only; omega)
      dsimp only
      rw [namesN_snoc hx]
      rwa [List.take_length] at o2 ⊢
  · have e : i = l.length := by omega
    subst e
    rw [List.take_length] at o1
    obtain ⟨oa, oc, rfl, ho1, ho2⟩ := o1.form
    exact Qfn.ret1 rfl rfl ⟨_, rfl, o1, n1⟩
theorem place_at {all : List Nm} {nm : Nm} : ∀ {k : Nat}, nm ∉ all.take k → (all[k]? = some nm ∨ k = all.length) → placeN all nm = sizeN (all.take k) := by
  induction all with
  | nil => intro k _ _; simp [placeN, sizeN]
  | cons s r ih =>
    intro k hno hk
    cases k with
    | zero =>
      rcases hk with hk | hk
      · simp at hk; rw [placeN, if_pos hk]; rfl
      · simp at hk
    | succ k =>
      rw [List.take_succ_cons] at hno ⊢
      have h1 : ¬ s = nm := fun e => hno (by rw [e]; simp)
      rw [placeN, if_neg h1, sizeN, ih (k := k) (fun e => hno (List.mem_cons_of_mem _ e)) (by simpa using hk)]
set_option maxRecDepth 4000 in
theorem placeR_spec {Pb : Nat → Prop} {w : World} {v : Value} {all : List Nm} {nm : Nm} (h : RdS (one vs) 1 Pb w v all) (hz : sizeN all ≤ 100000000000) :
    Calls Tryd.prog 50 #[v, vs nm] w (Ret fun r w' => r = vi (placeN all nm) ∧ New w w') := by
  obtain ⟨a, cap, rfl, hc1, hc2⟩ := h.form
  have hln := len_size all
  refine calls_of_Wc Tryd.func50 rfl Tryd.ntmps50 rfl ?_
  (repeat' (first | refine Wl.assignE (by conv => { lhs; whnf }) ?_ | refine Wl.nil ?_ | refine Qseq.normal ?_ | refine Wc.seq ?_ | refine Wc.region ?_ | refine Wc.block ?_))
  refine Wc.loop (σ := Nat) (fun k => [(0, .slice a all.length cap), (1, vs nm), (5, vi (sizeN (all.take k))), (6, vi k)]) (fun k w' => k ≤ all.length ∧ nm ∉ all.take k ∧ New w w') (fun k => all.length - k) 0 ⟨rfl, rfl, rfl, rfl, trivial⟩ ⟨Nat.zero_le _, by simp, Chg.refl _ _⟩ ?_
  rintro k G w1 ⟨hk, hno, n1⟩
  have hst := sizeN_take all k
  simp only [upds]
  (repeat' (first | refine Wl.moveE (by conv => { lhs; whnf }) ?_ | refine Wl.assignE (by conv => { lhs; whnf }) ?_ | refine Wl.nil ?_ | refine Wl.guardY rfl rfl ?_ | refine Wl.guardN rfl rfl ?_ | refine Wl.pickFE rfl (by conv => { lhs; whnf }) ?_ | refine Wl.lenS rfl ?_ | refine Qseq.normal ?_ | refine Wc.seq ?_ | refine Wc.region ?_ | refine Wc.exit ?_ | refine Wc.ret ?_ | refine Qseq.exit ?_ | refine Qblk.hit ?_ | refine Qloop.exit ?_ | refine Wc.condF rfl ?_ | refine Wl.lss rfl rfl (fun _ => ?_) (fun _ => ?_)))
  · obtain ⟨s, hs⟩ := get_lt all (k := k) (by omega)
    have hst2 := sizeN_take all (k + 1)
    have hsn : sizeN (all.take (k + 1)) = sizeN (all.take k) + (s.length + 1) := by rw [take_snoc hs, sizeN_snoc]
    refine Wl.idxAddr (h.keep (stable_one _) n1.keep) rfl rfl (by omega) hs fun b o cs hl hR hat => ?_
    obtain rfl : cs = [vs s] := hR
    (try refine Wl.guardY rfl rfl ?_)
    refine Wl.load1 rfl (hat.get 0 rfl) ?_
    (repeat' (first | refine Wl.moveE (by conv => { lhs; whnf }) ?_ | refine Wl.assignE (by conv => { lhs; whnf }) ?_ | refine Wl.nil ?_ | refine Wl.guardY rfl rfl ?_ | refine Wl.pickTE rfl (by conv => { lhs; whnf }) ?_ | refine Qseq.normal ?_ | refine Wc.seq ?_ | refine Wc.region ?_ | refine Wc.block ?_ | refine Wc.skip ?_ | refine Wc.exit ?_ | refine Wc.ret ?_ | refine Qseq.exit ?_ | refine Qblk.hit ?_ | refine Qloop.exit ?_ | refine Wc.condT rfl ?_ | refine Wc.condF rfl ?_ | refine Wl.sneq rfl rfl (fun _ => ?_) (fun _ => ?_)))
    · refine Wl.idxAddr (h.keep (stable_one _) n1.keep) rfl rfl (by omega) hs fun b o cs hl hR hat => ?_
      obtain rfl : cs = [vs s] := hR
      refine Wl.load1 rfl (hat.get 0 rfl) ?_
      (repeat' (first | refine Wl.moveE (by conv => { lhs; whnf }) ?_ | refine Wl.assignE (by conv => { lhs; whnf }) ?_ | refine Wl.nil ?_ | refine Wl.lenStr rfl ?_ | refine Qseq.normal ?_ | refine Wc.region ?_ | refine Qblk.normal ?_ | refine Wl.add rfl rfl (by omega) (by omega) ?_))
      refine Qloop.normal (k + 1) ⟨rfl, rfl, ?_, rfl, trivial⟩ ⟨by omega, ?_, n1⟩ (by omega)
      · show vi _ = vi _
        congr 1; omega
      · rw [take_snoc hs, List.mem_append, List.mem_singleton]
        rintro (e | e)
        · exact hno e
        · first | exact absurd e.symm (by assumption) | exact absurd e (by assumption)
    · have hsq : nm = s := by first | assumption | exact Eq.symm (by assumption)
      rw [place_at hno (.inl (by rw [hsq]; exact hs))]
      exact Qfn.ret1 rfl rfl ⟨_, rfl, rfl, n1⟩
  · have e : k = all.length := by omega
    rw [place_at hno (.inr e)]
    exact Qfn.ret1 rfl rfl ⟨_, rfl, rfl, n1⟩
set_option maxRecDepth 4000 in
theorem stringsR_spec {Pb : Nat → Prop} {w : World} {v : Value} {l : List Nd} (h : RdS rNd 3 Pb w v l) (hp : ∀ x ∈ l, propsOk x.props = true) (hl : l.length ≤ 512) (hz : sizeN (namesN [] l) ≤ 100000000000) :
    Calls Tryd.prog 32 #[v] w (Ret fun r w' => r = vs (stringsL l) ∧ New w w') := by
  unfold stringsL
  refine calls_of_Wc Tryd.func32 rfl Tryd.ntmps32 rfl ?_
  (repeat' (first | refine Wl.moveE (by conv => { lhs; whnf }) ?_ | refine Wl.assignE (by conv => { lhs; whnf }) ?_ | refine Wl.nil ?_ | refine Qseq.normal ?_ | refine Wc.seq ?_ | refine Wc.region ?_))
  refine Wl.call (namesR_spec h hp hl) rfl ?_
  rintro vo w1 ⟨o1, n1⟩
  obtain ⟨oa, oc, rfl, ho1, ho2⟩ := o1.form
  generalize namesN [] l = all at *
  have hln := len_size all
  (repeat' (first | refine Wl.assignE (by conv => { lhs; whnf }) ?_ | refine Wl.nil ?_ | refine Qseq.normal ?_ | refine Wc.seq ?_ | refine Wc.region ?_ | refine Wc.block ?_))
  refine Wc.loop (σ := Nat) (fun k => [(3, .slice oa all.length oc), (4, vs (strsN (all.take k))), (5, vi k)]) (fun k w' => k ≤ all.length ∧ New w1 w') (fun k => all.length - k) 0 ⟨rfl, rfl, rfl, trivial⟩ ⟨Nat.zero_le _, Chg.refl _ _⟩ ?_
  rintro k G w2 ⟨hk, n2⟩
  have hst := sizeN_take all k
  have hsl := strsN_length (all.take k)
  simp only [upds]
  (repeat' (first | refine Wl.moveE (by conv => { lhs; whnf }) ?_ | refine Wl.assignE (by conv => { lhs; whnf }) ?_ | refine Wl.nil ?_ | refine Wl.lenS rfl ?_ | refine Qseq.normal ?_ | refine Wc.seq ?_ | refine Wc.region ?_ | refine Wc.block ?_ | refine Wc.skip ?_ | refine Wc.exit ?_ | refine Wc.ret ?_ | refine Qseq.exit ?_ | refine Qblk.hit ?_ | refine Qloop.exit ?_ | refine Wc.condT rfl ?_ | refine Wc.condF rfl ?_ | refine Wl.lss rfl rfl (fun _ => ?_) (fun _ => ?_)))
  · obtain ⟨s, hs⟩ := get_lt all (k := k) (by omega)
    have hst2 := sizeN_take all (k + 1)
    have hsn : sizeN (all.take (k + 1)) = sizeN (all.take k) + (s.length + 1) := by rw [take_snoc hs, sizeN_snoc]
    have hsk := strsN_take hs
    refine Wl.idxAddr ((o1.new (plain_one _) n2).rd (mono_one _)) rfl rfl (by omega) hs fun b o cs hl hR hat => ?_
    obtain rfl : cs = [vs s] := hR
    refine Wl.load1 rfl (hat.get 0 rfl) ?_
    refine Wl.sadd rfl rfl (by omega) ?_
    refine Wl.sadd rfl (b := [0]) rfl (by rw [List.length_append, List.length_singleton]; omega) ?_
    (repeat' (first | refine Wl.moveE (by conv => { lhs; whnf }) ?_ | refine Wl.assignE (by conv => { lhs; whnf }) ?_ | refine Wl.nil ?_ | refine Qseq.normal ?_ | refine Wc.region ?_ | refine Qblk.normal ?_ | refine Wl.add rfl rfl (by omega) (by omega) ?_))
    refine Qloop.normal (k + 1) ⟨rfl, ?_, rfl, trivial⟩ ⟨by omega, n2⟩ (by omega)
    show vs _ = vs _
    rw [hsk]
  · have e : k = all.length := by omega
    subst e
    rw [List.take_length]
    exact Qfn.ret1 rfl rfl ⟨_, rfl, rfl, New.trans n1 n2⟩
end Go.Proofs.YtlkhajheecglgaaDoor

namespace Go.Proofs.YtlkhajheecglgaaDoor
open Go Wk
open Go.RowKit (Below)
attribute [local irreducible] Go.Calls

def stS (all : List Nm) (l : List Nd) (i : Nat) : List UInt8 × Nat := (((depL l).zip l).take i).foldl (stepB all) ([], 0)
section
variable {all : List Nm} {l : List Nd}
theorem stS_zero : stS all l 0 = ([], 0) := rfl
theorem zip_dep {i : Nat} {x : Nd} (hx : l[i]? = some x) : ((depL l).zip l)[i]? = some ((anc l i).length, x) := by
  have hi := (List.getElem?_eq_some_iff.1 hx).1
  rw [List.getElem?_zip_eq_some]
  refine ⟨?_, hx⟩
  unfold depL
  rw [List.getElem?_map, List.getElem?_range hi]; rfl
theorem stS_succ {i : Nat} {x : Nd} (hx : l[i]? = some x) : stS all l (i + 1) = ((stS all l i).1 ++ closes ((stS all l i).2 + 1 - (anc l i).length) ++ nodeB all x.name x.props, (anc l i).length) := by
  unfold stS
  rw [take_snoc (zip_dep hx), List.foldl_append]; rfl
theorem stS_all : stL all l = (stS all l l.length).1 ++ closes (stS all l l.length).2 := by
  unfold stL stS
  rw [List.take_of_length_le (by rw [List.length_zip]; omega)]
theorem anc_pos (i : Nat) : 1 ≤ (anc l i).length := by
  obtain ⟨r, h⟩ := anc_head l i
  rw [h]; simp
theorem next_parts {i : Nat} {x : Nd} (hx : l[i]? = some x) (h : nextOk l i = true) : (i = 0 ∧ x.parent = -1) ∨ (1 ≤ i ∧ 0 ≤ x.parent ∧ x.parent < i ∧ x.parent.toNat ∈ anc l (i - 1) ∧ (anc l x.parent.toNat).length + 1 ≤ 16) := by
  unfold nextOk at h
  rw [hx] at h
  dsimp only at h
  by_cases h0 : i = 0
  · rw [if_pos h0] at h
    simp only [Bool.and_eq_true, decide_eq_true_eq] at h
    exact .inl ⟨h0, h.2.2.1⟩
  · rw [if_neg h0] at h
    simp only [Bool.and_eq_true, decide_eq_true_eq] at h
    exact .inr ⟨by omega, h.2.2.2.1, h.2.2.2.2.1, List.contains_iff_mem.1 h.2.2.2.2.2.1, h.2.2.2.2.2.2.1⟩
/-- A node stands at most one deeper than the node ahead of it. -/
theorem dep_step (ht : treeOk l = true) {i : Nat} {x : Nd} (hx : l[i]? = some x) : (anc l i).length ≤ (stS all l i).2 + 1 ∧ (anc l i).length ≤ 16 := by
  have hi := (List.getElem?_eq_some_iff.1 hx).1
  have hall := ((treeOk_next l).1 ht).1
  have hd := down_of ht
  rcases next_parts hx (hall i hi) with ⟨rfl, hp⟩ | ⟨h1, h0, hlt, hmem, h16⟩
  · have e : (anc l 0).length = 1 := by rw [anc_step hd hi hx, if_pos (by omega)]; rfl
    omega
  · have e := anc_par hd hi hx (p := x.parent.toNat) (by omega)
    obtain ⟨y, hy⟩ := get_lt l (k := i - 1) (by omega)
    obtain ⟨pre, hpre⟩ := anc_mem hd (i - 1) (by omega) (by omega) hmem
    have e2 := congrArg List.length hpre
    rw [List.length_append] at e2
    have e3 := stS_succ (all := all) hy
    rw [show i - 1 + 1 = i by omega] at e3
    have e4 := congrArg Prod.snd e3
    dsimp only at e4
    omega
theorem closes_length (k : Nat) : (closes k).length = 4 * k := by
  induction k with
  | zero => rfl
  | succ k ih => rw [closes_succ, List.length_append, ih, cell4_length]; omega
theorem stS_len (hN : NdB all l) (ht : treeOk l = true) : ∀ i, i ≤ l.length → (stS all l i).1.length ≤ 41000 * i ∧ (stS all l i).2 ≤ 16 := by
  intro i
  induction i with
  | zero => intro _; exact ⟨by rw [stS_zero]; simp, by rw [stS_zero]; simp⟩
  | succ i ih =>
    intro hi
    obtain ⟨x, hx⟩ := get_lt l (k := i) (by omega)
    have hxm := List.mem_of_getElem? hx
    have ih := ih (by omega)
    have hb := nodeB_length all (hN.nm x hxm) (hN.cnt x hxm) fun p hp => (hN.pr x hxm p hp).2.2
    have hd := (dep_step (all := all) ht hx).2
    rw [stS_succ hx]
    dsimp only
    rw [List.length_append, List.length_append, closes_length]
    omega
theorem placeN_le : ∀ (all : List Nm) (nm : Nm), placeN all nm ≤ sizeN all
  | [], _ => Nat.le_refl _
  | s :: r, nm => by
    have := placeN_le r nm
    unfold placeN sizeN
    split <;> omega
end
theorem nmOk_of' {l : List Nd} {x : Nd} (hx : x ∈ l) {p : Pr} (hp : p ∈ x.props) (ht : treeOk l = true) : NmOk p.1 := ((propsOk_all (tree_pr ht x hx)).2 p hp).1
theorem bsUp {w0 w4 w' : World} {v' : Value} {l' : List UInt8} (hs : w0.heap.size ≤ w4.heap.size) (g : Bs (fun b => Up w0 b ∨ w4.heap.size ≤ b) w' v' l') : Bs (Up w0) w' v' l' := g.mono mono8 (fun b _ e => by rcases e with e | e; exact e; show _ ≤ _; omega) (fun _ _ e => e)
set_option maxRecDepth 8000 in
set_option maxHeartbeats 4000000 in
theorem structR_spec {Pb : Nat → Prop} {w : World} {v : Value} {l : List Nd} (h : RdS rNd 3 Pb w v l) (ht : treeOk l = true) :
    Calls Tryd.prog 31 #[v] w (Ret fun r w' => r = vs (structL l) ∧ New w w') := by
  obtain ⟨a, cap, rfl, hc1, hc2⟩ := h.form
  replace h := h.mono monoNd (Pb' := fun b => b < w.heap.size) fun b hb _ => hb
  have hN := tree_NdB ht
  have hz := names_size ht
  have hdn := down_of ht
  have hlen := hN.len
  unfold structL
  refine calls_of_Wc Tryd.func31 rfl Tryd.ntmps31 rfl ?_
  (repeat' (first | refine Wl.moveE (by conv => { lhs; whnf }) ?_ | refine Wl.assignE (by conv => { lhs; whnf }) ?_ | refine Wl.nil ?_ | refine Qseq.normal ?_ | refine Wc.seq ?_ | refine Wc.region ?_))
  refine Wl.call (namesR_spec h (tree_pr ht) hN.len) rfl ?_
  rintro vo w1 ⟨o1, n1⟩
  obtain ⟨oa, oc, rfl, ho1, ho2⟩ := o1.form
  generalize namesN [] l = all at *
  have z1 := n1.size
  have h1 := h.keep stableNd n1.keep
  (repeat' (first | refine Wl.assignE (by conv => { lhs; whnf }) ?_ | refine Wl.nil ?_ | refine Qseq.normal ?_ | refine Wc.seq ?_ | refine Wc.region ?_ | refine Wc.block ?_))
  refine Wc.loop (σ := Nat × Value) (fun s => [(0, .slice a l.length cap), (3, .slice oa all.length oc), (4, s.2), (5, vi (stS all l s.1).2), (6, vi s.1)])
    (fun s w' => s.1 ≤ l.length ∧ Bs (Up w1) w' s.2 (stS all l s.1).1 ∧ New w1 w') (fun s => l.length - s.1) (0, .slice none 0 0) ⟨rfl, rfl, rfl, rfl, rfl, trivial⟩ ⟨Nat.zero_le _, OwnS.nil, Chg.refl _ _⟩ ?_
  rintro ⟨i, bv⟩ G w2 ⟨hi, o2, n2⟩
  dsimp only at hi o2 n2
  have z2 := n2.size
  have hsl := stS_len hN ht i hi
  simp only [upds]
  (repeat' (first | refine Wl.moveE (by conv => { lhs; whnf }) ?_ | refine Wl.nil ?_ | refine Wl.lenS rfl ?_ | refine Qseq.normal ?_ | refine Wc.seq ?_ | refine Wc.region ?_ | refine Wc.block ?_ | refine Wc.skip ?_ | refine Wc.exit ?_ | refine Qseq.exit ?_ | refine Qblk.hit ?_ | refine Qloop.exit ?_ | refine Wc.condT rfl ?_ | refine Wc.condF rfl ?_ | refine Wl.lss rfl rfl (fun _ => ?_) (fun _ => ?_)))
  · obtain ⟨x, hx⟩ := get_lt l (k := i) (by omega)
    have hxm := List.mem_of_getElem? hx
    have hds := dep_step (all := all) ht hx
    have hdp := anc_pos (l := l) i
    have hss := stS_succ (all := all) hx
    refine Wl.call (Depth_spec (i := i) (h1.keep stableNd n2.keep) hdn (by omega) (by omega)) rfl ?_
    rintro _ w3 ⟨rfl, n3⟩
    have n13 := New.trans n2 n3
    have z3 := n3.size
    replace o2 := o2.new (plain_one _) n3
    generalize (anc l i).length = d at *
    generalize stS all l i = r at *
    obtain ⟨r1, r2⟩ := r
    dsimp only at *
    (repeat' (first | refine Wl.assignE (by conv => { lhs; whnf }) ?_ | refine Wl.nil ?_ | refine Qseq.normal ?_ | refine Wc.seq ?_ | refine Wc.block ?_))
    refine Wc.loop (σ := Nat × Value) (fun s => [(0, .slice a l.length cap), (3, .slice oa all.length oc), (4, s.2), (5, vi (r2 - s.1 : Nat)), (6, vi i), (7, vi d)])
      (fun s w' => s.1 ≤ r2 + 1 - d ∧ Bs (Up w1) w' s.2 (r1 ++ closes s.1) ∧ New w1 w') (fun s => r2 + 1 - d - s.1) (0, bv) ⟨rfl, rfl, rfl, rfl, rfl, rfl, trivial⟩ ⟨Nat.zero_le _, by rw [closes_zero, List.append_nil]; exact o2, n13⟩ ?_
    clear o2 n2 n3 n13 z2 z3
    rintro ⟨j, bv⟩ G w2 ⟨hj, o2, n2⟩
    dsimp only at hj o2 n2
    have z2 := n2.size
    have hcl := closes_length j
    simp only [upds]
    (repeat' (first | refine Wl.moveE (by conv => { lhs; whnf }) ?_ | refine Wl.assignE (by conv => { lhs; whnf }) ?_ | refine Wl.nil ?_ | refine Qseq.normal ?_ | refine Wc.seq ?_ | refine Wc.region ?_ | refine Wc.block ?_ | refine Wc.skip ?_ | refine Wc.exit ?_ | refine Qseq.exit ?_ | refine Qblk.hit ?_ | refine Qloop.exit ?_ | refine Wc.condT rfl ?_ | refine Wc.condF rfl ?_ | refine Wl.add rfl rfl (by omega) (by omega) ?_ | refine Wl.geq rfl rfl (fun _ => ?_) (fun _ => ?_)))
    · refine Wl.call (cellR_spec (n := 2) (by omega)) rfl ?_
      rintro _ w3 ⟨rfl, n3⟩
      have z3 := n3.size
      refine Wl.appendStr (o2.new (plain_one _) n3) rfl rfl (by simp only [maxLen, List.length_append, cell4_length]; omega) (by simp only [List.length_append, cell4_length]; omega) fun bv4 w4 o4 c4 l4 => ?_
      (repeat' (first | refine Wl.moveE (by conv => { lhs; whnf }) ?_ | refine Wl.assignE (by conv => { lhs; whnf }) ?_ | refine Wl.nil ?_ | refine Qseq.normal ?_ | refine Wc.region ?_ | refine Qblk.normal ?_ | refine Wl.sub rfl rfl (by omega) (by omega) ?_))
      refine Qloop.normal (j + 1, bv4) ⟨rfl, rfl, rfl, ?_, rfl, rfl, trivial⟩ ⟨by dsimp only; omega, ?_, Chg.trans (New.trans n2 n3) c4 fun b hb e => by have : w1.heap.size ≤ b := (o2.lt e).1; omega⟩ (by dsimp only; omega)
      · show vi _ = vi _
        congr 1; omega
      · dsimp only
        rw [closes_succ, ← List.append_assoc]
        exact bsUp (by omega) o4
    · have hje : j = r2 + 1 - d := by omega
      have hop : ((r2 - j : Nat) : Int) + 1 = d := by omega
      skip
      rw [hop]
      obtain ⟨R1, hR1⟩ : ∃ R1, R1 = r1 ++ closes j := ⟨_, rfl⟩
      have hR1l : R1.length ≤ 41000 * i + 4 * j := by rw [hR1, List.length_append, hcl]; omega
      rw [← hR1] at o2
      have hnl := hN.nm x hxm
      have h2 := h1.keep stableNd n2.keep
      have hM : ∀ b, bv.ownBlock = some b → w1.heap.size ≤ b := fun b e => (o2.lt e).1
      have hkM : ∀ w', Chg (fun b => bv.ownBlock = some b) w2 w' → Keep (fun b => b < w.heap.size) w2 w' := fun w' hw => hw.keep fun b hb e1 e2 => by have := hM b e2; omega
      have hfl := fil_length (x.name ++ [0])
      have hul : up4 (x.name ++ [(0 : UInt8)]).length ≤ 40 := by rw [List.length_append, List.length_singleton]; unfold up4; omega
      have hcf : (cell4 1 ++ fil (x.name ++ [0])).length ≤ 44 := by rw [List.length_append, hfl, cell4_length]; omega
      refine Wc.regionT rfl (by kernel_rfl) (fun w' => Chg (fun b => bv.ownBlock = some b) w2 w') (Chg.drew _ _) ?_
      intro w3 n3
      (repeat' (refine Wt.quiet rfl (Wq.moveE (by conv => { lhs; whnf }) (Wq.nil ?_))))
      refine Wt.chain rfl (Wl.call (cellR_spec (n := 1) (by omega)) rfl ?_)
      rintro _ w4 ⟨rfl, n4⟩
      have n24 := New.trans n3 n4
      refine Wl.nil ⟨rfl, n24.any, ?_⟩
      (repeat' (refine Wt.quiet rfl (Wq.moveE (by conv => { lhs; whnf }) (Wq.nil ?_))))
      refine Wt.quiet rfl (Wq.idxAddr h2 hkM rfl rfl (by omega) hx fun b o cs hcs hR hat => Wq.nil ?_)
      obtain ⟨pv, rfl, hpr⟩ := hR
      (repeat' (refine Wt.quiet rfl (Wq.fieldAddr rfl rfl (Wq.nil ?_))))
      refine Wt.quiet rfl (Wq.load1 rfl (fun w' hw => (hat w' hw).get 1 rfl) (Wq.nil ?_))
      clear hat hpr
      refine Wt.quiet rfl (Wq.sadd rfl (b := [0]) rfl (by simp only [List.length_singleton]; omega) (Wq.nil ?_))
      refine Wt.chain rfl (Wl.call (filledR_spec (s := x.name ++ [0]) (by rw [List.length_append, List.length_singleton]; omega)) rfl ?_)
      rintro _ w5 ⟨rfl, n5⟩
      have n25 := New.trans n24 n5
      have z25 := n25.size
      refine Wl.nil ⟨rfl, n25.any, ?_⟩
      refine Wt.quiet rfl (Wq.sadd rfl rfl (by rw [hfl, cell4_length]; omega) (Wq.nil ?_))
      refine Wt.chain rfl (Wl.appendStr (o2.new (plain_one _) n25) rfl rfl (by simp only [maxLen]; omega) (by omega) fun bv6 w6 o6 c6 l6 => ?_)
      have c26 : Chg (fun b => bv.ownBlock = some b) w2 w6 := Chg.trans n25.any c6 fun b hb e => e
      refine Wl.nil ⟨rfl, c26, ?_⟩
      (repeat' (first | refine Wt.nil ?_ | refine Wt.quiet rfl (Wq.assignE (by conv => { lhs; whnf }) (Wq.nil ?_))))
      replace o6 : Bs (Up w1) w6 bv6 _ := bsUp (by omega) o6
      have n16 : New w1 w6 := Chg.trans n2 c26 fun b hb e => by have := hM b e; omega
      clear c6 c26 l6 o2 hkM n2 h2 n3 n4 n5 n24 n25 z25 hM z2
      (repeat' (first | refine Wl.assignE (by conv => { lhs; whnf }) ?_ | refine Wl.nil ?_ | refine Qseq.normal ?_ | refine Wc.seq ?_ | refine Wc.region ?_ | refine Wc.block ?_))
      have hxc := hN.cnt x hxm
      have hfm : ∀ k, k ≤ x.props.length → ((x.props.take k).flatMap (propB all)).length ≤ 1040 * k := fun k hk => by
        have := flat_le (all := all) (x.props.take k) fun p hp => ⟨nmOk_of' hxm (List.mem_of_mem_take hp) ht, (hN.pr x hxm p (List.mem_of_mem_take hp)).2.2⟩
        rw [List.length_take] at this; omega
      obtain ⟨R2, hR2⟩ : ∃ R2, R2 = R1 ++ (cell4 1 ++ fil (x.name ++ [0])) := ⟨_, rfl⟩
      have hR2l : R2.length ≤ 41000 * i + 4 * j + 44 := by rw [hR2, List.length_append]; omega
      rw [← hR2] at o6
      refine Wc.loop (σ := Nat × Value) (fun s => [(0, .slice a l.length cap), (3, .slice oa all.length oc), (4, s.2), (5, vi d), (6, vi i), (8, vi s.1)])
        (fun s w' => s.1 ≤ x.props.length ∧ Bs (Up w1) w' s.2 (R2 ++ (x.props.take s.1).flatMap (propB all)) ∧ New w1 w') (fun s => x.props.length - s.1) (0, bv6) ⟨rfl, rfl, rfl, rfl, rfl, rfl, trivial⟩ ⟨Nat.zero_le _, by simpa using o6, n16⟩ ?_
      clear o6 n16
      rintro ⟨k, bv⟩ G w2 ⟨hk, o2, n2⟩
      dsimp only at hk o2 n2
      have z2 := n2.size
      have hfk := hfm k hk
      have h2 := h1.keep stableNd n2.keep
      simp only [upds]
      (repeat' (first | refine Wl.moveE (by conv => { lhs; whnf }) ?_ | refine Wc.seq ?_ | refine Wc.region ?_))
      refine Wl.idxAddr h2 rfl rfl (by omega) hx fun b o cs hcs hR hat => ?_
      obtain ⟨pv, rfl, hpr⟩ := hR
      obtain ⟨pa, pc, rfl, _, hpm⟩ := hpr.form
      (repeat' (refine Wl.fieldAddr rfl rfl ?_))
      refine Wl.load1 rfl (hat.get 2 rfl) ?_
      clear hat
      (repeat' (first | refine Wl.moveE (by conv => { lhs; whnf }) ?_ | refine Wl.assignE (by conv => { lhs; whnf }) ?_ | refine Wl.nil ?_ | refine Wl.lenS rfl ?_ | refine Qseq.normal ?_ | refine Wc.seq ?_ | refine Wc.region ?_ | refine Wc.block ?_ | refine Wc.skip ?_ | refine Wc.exit ?_ | refine Qseq.exit ?_ | refine Qblk.normal ?_ | refine Qblk.hit ?_ | refine Qloop.exit ?_ | refine Wc.condT rfl ?_ | refine Wc.condF rfl ?_ | refine Wl.add rfl rfl (by omega) (by omega) ?_ | refine Wl.lss rfl rfl (fun _ => ?_) (fun _ => ?_)))
      · obtain ⟨p, hp⟩ := get_lt x.props (k := k) (by omega)
        have hpp := hN.pr x hxm p (List.mem_of_getElem? hp)
        refine Wl.idxAddr h2 rfl rfl (by omega) hx fun b o cs hcs hR hat => ?_
        obtain ⟨pv, rfl, hpr⟩ := hR
        obtain ⟨pa, pc, rfl, _, hpm⟩ := hpr.form
        (repeat' (refine Wl.fieldAddr rfl rfl ?_))
        refine Wl.load1 rfl (hat.get 2 rfl) ?_
        clear hat
        (repeat' (refine Wl.moveE (by conv => { lhs; whnf }) ?_))
        refine Wl.idxAddr hpr rfl rfl (by omega) hp fun b o cs hl hR hat => ?_
        obtain rfl : cs = pC p := hR
        refine Wl.loadAt hat rfl rfl ?_
        refine Wl.alloc fun w8 b8 n8 s8 => ?_
        refine Wl.storeB (new := pC p) b8 rfl rfl rfl rfl (show (2 : Nat) ≤ 2 from Nat.le_refl 2) (goodPr.oc (fun _ => True) w p _ rfl rfl) fun w9 b9 c9 s9 => ?_
        replace b9 : Bk w9 w2.heap.size 41 (pC p) := b9
        have n29 : New w2 w9 := Chg.trans n8 c9 fun k hk e => by omega
        have o9 := o2.new (plain_one _) n29
        have n19 := New.trans n2 n29
        have hM : ∀ b, bv.ownBlock = some b → w1.heap.size ≤ b ∧ b < w2.heap.size := fun b e => o2.lt e
        clear hat b8 c9 n8 o2
        have hb9 : ∀ w', Chg (fun b => bv.ownBlock = some b) w9 w' → Bk w' w2.heap.size 41 (pC p) := fun w' hw => b9.chg hw fun e => by have := hM _ e; omega
        have hal : ∀ w', New w1 w' → RdS (one vs) 1 (fun b => Up w b ∨ No8 b) w' (.slice oa all.length oc) all := fun w' hw => (o1.new (plain_one _) hw).rd (mono_one _)
        have hpl := placeN_le all p.1
        have hfv := fil_length p.2
        have huv : up4 p.2.length ≤ 1030 := by unfold up4; omega
        obtain ⟨B1, hB1⟩ : ∃ B1, B1 = ((cell4 3 ++ cell4 p.2.length) ++ cell4 (placeN all p.1)) ++ fil p.2 := ⟨_, rfl⟩
        have hB1l : B1.length ≤ 1042 := by rw [hB1]; simp only [List.length_append, cell4_length, hfv]; omega
        have hB1p : propB all p = B1 := by rw [hB1]; unfold propB; simp only [List.append_assoc]
        have hBl : (R2 ++ (x.props.take k).flatMap (propB all)).length ≤ 41000 * i + 4 * j + 44 + 1040 * k := by rw [List.length_append]; omega
        (repeat' (first | refine Wl.nil ?_ | refine Qseq.normal ?_))
        refine Wc.regionT rfl (by kernel_rfl) (fun w' => Chg (fun b => bv.ownBlock = some b) w9 w') (Chg.drew _ _) ?_
        intro w3 n3
        (repeat' (refine Wt.quiet rfl (Wq.moveE (by conv => { lhs; whnf }) (Wq.nil ?_))))
        refine Wt.chain rfl (Wl.call (cellR_spec (n := 3) (by omega)) rfl ?_)
        rintro _ w4 ⟨rfl, n4⟩
        have n4' := New.trans n3 n4
        refine Wl.nil ⟨rfl, n4'.any, ?_⟩
        (repeat' (refine Wt.quiet rfl (Wq.fieldAddr rfl rfl (Wq.nil ?_))))
        refine Wt.quiet rfl (Wq.load1 rfl (fun w' hw => (hb9 w' hw).cell (o := 1) rfl) (Wq.nil ?_))
        (repeat' (refine Wt.quiet rfl (Wq.lenStr rfl (Wq.nil ?_))))
        refine Wt.chain rfl (Wl.call (cellR_spec (n := p.2.length) (by omega)) rfl ?_)
        rintro _ w5 ⟨rfl, n5⟩
        have n5' := New.trans n4' n5
        refine Wl.nil ⟨rfl, n5'.any, ?_⟩
        refine Wt.quiet rfl (Wq.sadd rfl rfl (by rw [cell4_length, cell4_length]; omega) (Wq.nil ?_))
        (repeat' (first | refine Wt.quiet rfl (Wq.moveE (by conv => { lhs; whnf }) (Wq.nil ?_)) | refine Wt.quiet rfl (Wq.fieldAddr rfl rfl (Wq.nil ?_))))
        refine Wt.quiet rfl (Wq.load1 rfl (fun w' hw => (hb9 w' hw).cell (o := 0) rfl) (Wq.nil ?_))
        refine Wt.chain rfl (Wl.call (placeR_spec (nm := p.1) (hal _ (New.trans n19 n5')) (by omega)) rfl ?_)
        rintro _ w6 ⟨rfl, n6⟩
        have n6' := New.trans n5' n6
        refine Wl.nil ⟨rfl, n6'.any, ?_⟩
        refine Wt.chain rfl (Wl.call (cellR_spec (n := placeN all p.1) (by omega)) rfl ?_)
        rintro _ w7 ⟨rfl, n7⟩
        have n7' := New.trans n6' n7
        refine Wl.nil ⟨rfl, n7'.any, ?_⟩
        refine Wt.quiet rfl (Wq.sadd rfl rfl (by rw [List.length_append, cell4_length, cell4_length, cell4_length]; omega) (Wq.nil ?_))
        (repeat' (refine Wt.quiet rfl (Wq.fieldAddr rfl rfl (Wq.nil ?_))))
        refine Wt.quiet rfl (Wq.load1 rfl (fun w' hw => (hb9 w' hw).cell (o := 1) rfl) (Wq.nil ?_))
        refine Wt.chain rfl (Wl.call (filledR_spec (s := p.2) (by omega)) rfl ?_)
        rintro _ w10 ⟨rfl, n10⟩
        have n10' := New.trans n7' n10
        have z10 := n10'.size
        have z29 := n29.size
        refine Wl.nil ⟨rfl, n10'.any, ?_⟩
        refine Wt.quiet rfl (Wq.sadd rfl rfl (by simp only [List.length_append, cell4_length, hfv]; omega) (Wq.nil ?_))
        rw [← hB1]
        refine Wt.chain rfl (Wl.appendStr (o9.new (plain_one _) n10') rfl rfl (by simp only [maxLen]; omega) (by omega) fun bv11 w11 o11 c11 l11 => ?_)
        have c911 : Chg (fun b => bv.ownBlock = some b) w9 w11 := Chg.trans n10'.any c11 fun b hb e => e
        refine Wl.nil ⟨rfl, c911, ?_⟩
        (repeat' (first | refine Wt.nil ?_ | refine Wt.quiet rfl (Wq.assignE (by conv => { lhs; whnf }) (Wq.nil ?_))))
        (repeat' (first | refine Wl.moveE (by conv => { lhs; whnf }) ?_ | refine Wl.assignE (by conv => { lhs; whnf }) ?_ | refine Wl.nil ?_ | refine Qseq.normal ?_ | refine Wc.region ?_ | refine Qblk.normal ?_ | refine Wl.add rfl rfl (by omega) (by omega) ?_))
        refine Qloop.normal (k + 1, bv11) ⟨rfl, rfl, rfl, rfl, rfl, rfl, trivial⟩ ⟨by dsimp only; omega, ?_, Chg.trans n19 c911 fun b hb e => by have := hM b e; omega⟩ (by dsimp only; omega)
        dsimp only
        rw [take_snoc hp, List.flatMap_append, List.flatMap_singleton, hB1p, ← List.append_assoc]
        exact bsUp (by omega) o11
      · have e : k = x.props.length := by omega
        subst e
        rw [List.take_length] at o2
        skip
        refine Qloop.normal (i + 1, bv) ⟨rfl, rfl, rfl, ?_, rfl, trivial⟩ ⟨by dsimp only; omega, ?_, n2⟩ (by dsimp only; omega)
        · dsimp only; rw [hss]; rfl
        · dsimp only; rw [hss]
          dsimp only
          rw [hR2, hR1, hje] at o2
          unfold nodeB
          simpa only [List.append_assoc] using o2
  · have e : i = l.length := by omega
    subst e
    rw [stS_all]
    generalize stS all l l.length = r at *
    obtain ⟨r1, r2⟩ := r
    dsimp only at *
    skip
    refine Wc.loop (σ := Nat × Value) (fun s => [(4, s.2), (5, vi (r2 - s.1 : Nat))]) (fun s w' => s.1 ≤ r2 ∧ Bs (Up w1) w' s.2 (r1 ++ closes s.1) ∧ New w1 w') (fun s => r2 - s.1) (0, bv) ⟨rfl, rfl, trivial⟩ ⟨Nat.zero_le _, by rw [closes_zero, List.append_nil]; exact o2, n2⟩ ?_
    clear o2 n2 z2
    rintro ⟨j, bv⟩ G w2 ⟨hj, o2, n2⟩
    dsimp only at hj o2 n2
    have z2 := n2.size
    have hcl := closes_length j
    simp only [upds]
    (repeat' (first | refine Wl.moveE (by conv => { lhs; whnf }) ?_ | refine Wl.nil ?_ | refine Qseq.normal ?_ | refine Wc.seq ?_ | refine Wc.region ?_ | refine Wc.block ?_ | refine Wc.skip ?_ | refine Wc.exit ?_ | refine Qseq.exit ?_ | refine Qblk.hit ?_ | refine Qloop.exit ?_ | refine Wc.condT rfl ?_ | refine Wc.condF rfl ?_ | refine Wl.gtr rfl rfl (fun _ => ?_) (fun _ => ?_)))
    · refine Wl.call (cellR_spec (n := 2) (by omega)) rfl ?_
      rintro _ w3 ⟨rfl, n3⟩
      have z3 := n3.size
      refine Wl.appendStr (o2.new (plain_one _) n3) rfl rfl (by simp only [maxLen, List.length_append, cell4_length]; omega) (by simp only [List.length_append, cell4_length]; omega) fun bv4 w4 o4 c4 l4 => ?_
      (repeat' (first | refine Wl.moveE (by conv => { lhs; whnf }) ?_ | refine Wl.assignE (by conv => { lhs; whnf }) ?_ | refine Wl.nil ?_ | refine Qseq.normal ?_ | refine Wc.region ?_ | refine Qblk.normal ?_ | refine Wl.sub rfl rfl (by omega) (by omega) ?_))
      refine Qloop.normal (j + 1, bv4) ⟨rfl, ?_, trivial⟩ ⟨by dsimp only; omega, ?_, Chg.trans (New.trans n2 n3) c4 fun b hb e => by have : w1.heap.size ≤ b := (o2.lt e).1; omega⟩ (by dsimp only; omega)
      · show vi _ = vi _
        congr 1; omega
      · dsimp only
        rw [closes_succ, ← List.append_assoc]
        exact bsUp (by omega) o4
    · have e : j = r2 := by omega
      subst e
      refine Wl.call (cellR_spec (n := 9) (by omega)) rfl ?_
      rintro _ w3 ⟨rfl, n3⟩
      have z3 := n3.size
      refine Wl.appendStr (o2.new (plain_one _) n3) rfl rfl (by simp only [maxLen, List.length_append, cell4_length]; omega) (by simp only [List.length_append, cell4_length]; omega) fun bv4 w4 o4 c4 l4 => ?_
      refine Wl.bytesStr (o4.rd mono8) rfl ?_
      (repeat' (first | refine Wl.assignE (by conv => { lhs; whnf }) ?_ | refine Wl.nil ?_ | refine Qseq.normal ?_ | refine Wc.ret ?_))
      exact Qfn.ret1 rfl rfl ⟨_, rfl, rfl, New.trans n1 (Chg.trans (New.trans n2 n3) c4 fun b hb e => by have : w1.heap.size ≤ b := (o2.lt e).1; omega)⟩
set_option maxRecDepth 4000 in
theorem StringsR_spec {Pb : Nat → Prop} {w : World} {v : Value} {l : List Nd} (h : RdS rNd 3 Pb w v l) (hz : Sz l) :
    Calls Tryd.prog 15 #[v] w (Ret fun r w' => ∃ sv, r = .tuple #[sv, vi (if treeOk l then 0 else 40)] ∧ OwnS (one vs) 9 1 (Up w) No8 w' sv (if treeOk l then namesN [] l else []) ∧ New w w') := by
  refine calls_of_Wc Tryd.func15 rfl Tryd.ntmps15 rfl ?_
  (repeat' (first | refine Wl.moveE (by conv => { lhs; whnf }) ?_ | refine Wl.assignE (by conv => { lhs; whnf }) ?_ | refine Wl.nil ?_ | refine Qseq.normal ?_ | refine Wc.seq ?_ | refine Wc.region ?_))
  refine Wl.call (TreeR_spec h hz) rfl ?_
  rintro _ w1 ⟨rfl, n1⟩
  cases ht : treeOk l with
  | false =>
    (repeat' (first | refine Wl.assignE (by conv => { lhs; whnf }) ?_ | refine Wl.nil ?_ | refine Wl.notB rfl ?_ | refine Qseq.normal ?_ | refine Wc.seq ?_ | refine Wc.region ?_ | refine Wc.ret ?_ | refine Qseq.ret ?_ | refine Wc.condT rfl ?_))
    exact Qfn.ret2 rfl rfl rfl ⟨_, rfl, _, rfl, OwnS.nil, n1⟩
  | true =>
    have hN := tree_NdB ht
    (repeat' (first | refine Wl.moveE (by conv => { lhs; whnf }) ?_ | refine Wl.nil ?_ | refine Wl.notB rfl ?_ | refine Qseq.normal ?_ | refine Wc.seq ?_ | refine Wc.region ?_ | refine Wc.skip ?_ | refine Wc.condF rfl ?_))
    refine Wl.call (namesR_spec (h.keep stableNd n1.keep) (tree_pr ht) hN.len) rfl ?_
    rintro sv w2 ⟨o2, n2⟩
    obtain ⟨oa, oc, rfl, ho1, ho2⟩ := o2.form
    have z1 := n1.size
    (repeat' (first | refine Wl.assignE (by conv => { lhs; whnf }) ?_ | refine Wl.nil ?_ | refine Qseq.normal ?_ | refine Wc.ret ?_))
    refine Qfn.ret2 rfl rfl rfl ⟨_, rfl, _, rfl, ?_, New.trans n1 n2⟩
    rw [if_pos rfl]
    exact o2.mono (mono_one _) (fun b _ e => by have : w1.heap.size ≤ b := e; show w.heap.size ≤ b; omega) (fun _ _ e => e)
set_option maxRecDepth 8000 in
set_option maxHeartbeats 1000000 in
theorem EncodeR_spec {Pb : Nat → Prop} {w : World} {v : Value} {l : List Nd} (h : RdS rNd 3 Pb w v l) (hz : Sz l) :
    Calls Tryd.prog 13 #[v] w (Ret fun r w' => r = .tuple #[vs (if treeOk l then encL l else []), vi (if treeOk l then 0 else 40)] ∧ New w w') := by
  obtain ⟨a, cap, rfl, hc1, hc2⟩ := h.form
  refine calls_of_Wc Tryd.func13 rfl Tryd.ntmps13 rfl ?_
  (repeat' (first | refine Wl.moveE (by conv => { lhs; whnf }) ?_ | refine Wl.assignE (by conv => { lhs; whnf }) ?_ | refine Wl.nil ?_ | refine Qseq.normal ?_ | refine Wc.seq ?_ | refine Wc.region ?_))
  refine Wl.call (TreeR_spec h hz) rfl ?_
  rintro _ w1 ⟨rfl, n1⟩
  cases ht : treeOk l with
  | false =>
    (repeat' (first | refine Wl.assignE (by conv => { lhs; whnf }) ?_ | refine Wl.nil ?_ | refine Wl.notB rfl ?_ | refine Qseq.normal ?_ | refine Wc.seq ?_ | refine Wc.region ?_ | refine Wc.ret ?_ | refine Qseq.ret ?_ | refine Wc.condT rfl ?_))
    exact Qfn.ret2 rfl rfl rfl ⟨_, rfl, rfl, n1⟩
  | true =>
    rw [if_pos rfl, if_pos rfl]
    have hN := tree_NdB ht
    have hnl := hN.len
    have hs1 := struct_size ht
    have hs2 := names_size ht
    have hs3 := strings_size l
    have he : encL l = ((((((((([208, 13, 254, 237] ++ cell4 (32 + (structL l).length + (stringsL l).length)) ++ cell4 32) ++ cell4 (structL l).length) ++ cell4 (32 + (structL l).length)) ++ cell4 (stringsL l).length) ++ cell4 17) ++ cell4 l.length) ++ structL l) ++ stringsL l) := by
      unfold encL headB
      rw [← magic_cell]
      simp only [List.append_assoc]
    rw [he]
    clear he
    (repeat' (first | refine Wl.moveE (by conv => { lhs; whnf }) ?_ | refine Wl.nil ?_ | refine Wl.notB rfl ?_ | refine Qseq.normal ?_ | refine Wc.seq ?_ | refine Wc.region ?_ | refine Wc.skip ?_ | refine Wc.condF rfl ?_))
    refine Wl.call (structR_spec (h.keep stableNd n1.keep) ht) rfl ?_
    rintro _ w2 ⟨rfl, n2⟩
    have n02 := New.trans n1 n2
    (repeat' (first | refine Wl.moveE (by conv => { lhs; whnf }) ?_ | refine Wl.assignE (by conv => { lhs; whnf }) ?_ | refine Wl.nil ?_ | refine Qseq.normal ?_ | refine Wc.seq ?_ | refine Wc.region ?_))
    refine Wl.call (stringsR_spec (h.keep stableNd n02.keep) (tree_pr ht) hnl (by omega)) rfl ?_
    rintro _ w3 ⟨rfl, n3⟩
    have n03 := New.trans n02 n3
    generalize structL l = S at *
    generalize stringsL l = T at *
    (repeat' (first | refine Wl.moveE (by conv => { lhs; whnf }) ?_ | refine Wl.assignE (by conv => { lhs; whnf }) ?_ | refine Wl.nil ?_ | refine Wl.lenStr rfl ?_ | refine Qseq.normal ?_ | refine Wc.seq ?_ | refine Wc.region ?_ | refine Wl.add rfl rfl (by omega) (by omega) ?_))
    have k4 := fun w => cellR_spec (w := w) (n := 32 + S.length + T.length) (by omega)
    rw [show ((32 + S.length + T.length : Nat) : Int) = 32 + (S.length : Int) + (T.length : Int) by omega] at k4
    have k7 := fun w => cellR_spec (w := w) (n := 32 + S.length) (by omega)
    rw [show ((32 + S.length : Nat) : Int) = 32 + (S.length : Int) by omega] at k7
    refine Wl.call (k4 _) rfl ?_
    rintro _ w4 ⟨rfl, n4⟩
    refine Wl.sadd (a := [208, 13, 254, 237]) rfl rfl (by simp only [List.length_append, List.length_cons, List.length_nil, cell4_length]; omega) ?_
    refine Wl.call (cellR_spec (n := 32) (by omega)) rfl ?_
    rintro _ w5 ⟨rfl, n5⟩
    refine Wl.sadd rfl rfl (by simp only [List.length_append, List.length_cons, List.length_nil, cell4_length]; omega) ?_
    (repeat' (first | refine Wl.moveE (by conv => { lhs; whnf }) ?_ | refine Wl.lenStr rfl ?_))
    refine Wl.call (cellR_spec (n := S.length) (by omega)) rfl ?_
    rintro _ w6 ⟨rfl, n6⟩
    refine Wl.sadd rfl rfl (by simp only [List.length_append, List.length_cons, List.length_nil, cell4_length]; omega) ?_
    (repeat' (first | refine Wl.moveE (by conv => { lhs; whnf }) ?_ | refine Wl.lenStr rfl ?_ | refine Wl.add rfl rfl (by omega) (by omega) ?_))
    refine Wl.call (k7 _) rfl ?_
    rintro _ w7 ⟨rfl, n7⟩
    refine Wl.sadd rfl rfl (by simp only [List.length_append, List.length_cons, List.length_nil, cell4_length]; omega) ?_
    (repeat' (first | refine Wl.moveE (by conv => { lhs; whnf }) ?_ | refine Wl.lenStr rfl ?_))
    refine Wl.call (cellR_spec (n := T.length) (by omega)) rfl ?_
    rintro _ w8 ⟨rfl, n8⟩
    refine Wl.sadd rfl rfl (by simp only [List.length_append, List.length_cons, List.length_nil, cell4_length]; omega) ?_
    refine Wl.call (cellR_spec (n := 17) (by omega)) rfl ?_
    rintro _ w9 ⟨rfl, n9⟩
    refine Wl.sadd rfl rfl (by simp only [List.length_append, List.length_cons, List.length_nil, cell4_length]; omega) ?_
    (repeat' (first | refine Wl.moveE (by conv => { lhs; whnf }) ?_ | refine Wl.lenS rfl ?_))
    refine Wl.call (cellR_spec (n := l.length) (by omega)) rfl ?_
    rintro _ w10 ⟨rfl, n10⟩
    refine Wl.sadd rfl rfl (by simp only [List.length_append, List.length_cons, List.length_nil, cell4_length]; omega) ?_
    (repeat' (refine Wl.moveE (by conv => { lhs; whnf }) ?_))
    refine Wl.sadd rfl rfl (by simp only [List.length_append, List.length_cons, List.length_nil, cell4_length]; omega) ?_
    (repeat' (refine Wl.moveE (by conv => { lhs; whnf }) ?_))
    refine Wl.sadd rfl rfl (by simp only [List.length_append, List.length_cons, List.length_nil, cell4_length]; omega) ?_
    (repeat' (first | refine Wl.assignE (by conv => { lhs; whnf }) ?_ | refine Wl.nil ?_ | refine Qseq.normal ?_ | refine Wc.ret ?_))
    exact Qfn.ret2 rfl rfl rfl ⟨_, rfl, rfl, New.trans (New.trans (New.trans (New.trans (New.trans (New.trans (New.trans n03 n4) n5) n6) n7) n8) n9) n10⟩
end Go.Proofs.YtlkhajheecglgaaDoor

namespace Go.Proofs.YtlkhajheecglgaaDoor
open Go Wk
open Go.RowKit (Below)
attribute [local irreducible] Go.Calls

section
variable {P : Program} {n : Nat} {ds : List Deferred} {C : World → Prop} {K : Fr → Prop} {F : Fr} {ops rest : List Oper} {d : Nat} {ty : TypeId} {pos : String} {aft : Array Edge} {x lo hi : Operand} {t : TypeId} {k k' : IntKind} {a b : Int} {l : List UInt8}
theorem Wk.Wq.strBoth [ht : Und P t .string] (hx : ev n F x = vs l) (hl : ev n F lo = .int k a) (hh : ev n F hi = .int k' b) (h0 : 0 ≤ a) (h1 : a ≤ b) (h2 : b ≤ l.length)
    (c : Wq P n ds C K ops rest (upd F d (vs ((l.take b.toNat).drop a.toNat)))) : Wq P n ds C K ops (⟨some d, .slice t x (some lo) (some hi) none, ty, pos, aft, none⟩ :: rest) F := by
  obtain ⟨a, rfl⟩ := Int.eq_ofNat_of_zero_le h0
  obtain ⟨b, rfl⟩ := Int.eq_ofNat_of_zero_le (Int.le_trans h0 h1)
  refine Wq.val (fun w _ => ?_) c
  have := run_sliceStr (P := P) (w := w) (l := l) (lo := some (.int k a)) (hi := some (.int k' b)) (a := a) (b := b) ht.h (.inr ⟨k, rfl⟩) (.inr ⟨k', rfl⟩) (by omega) (by omega)
  simp only [execOp, hx, hl, hh, Option.map_some, Option.map_none, Sem.run_bind, this, Result.andThen_ok, Sem.run_pure, Int.toNat_natCast]
end
/-- A number's bytes, one by one. -/
def numP (x : List UInt8) : Nat := x.foldl (fun n c => 256 * n + c.toNat) 0
theorem numP_snoc (x : List UInt8) (c : UInt8) : numP (x ++ [c]) = 256 * numP x + c.toNat := by unfold numP; rw [List.foldl_append]; rfl
theorem numP_lt : ∀ (n : Nat) (x : List UInt8), x.length = n → numP x < 256 ^ n := by
  intro n
  induction n with
  | zero => intro x h; rw [List.eq_nil_of_length_eq_zero h]; decide
  | succ n ih =>
    intro x h
    have hne : x ≠ [] := fun e => by rw [e] at h; cases h
    have e : x = x.dropLast ++ [x.getLast hne] := (List.dropLast_concat_getLast hne).symm
    have := ih x.dropLast (by simp [h])
    have hc := (x.getLast hne).toNat_lt
    rw [e, numP_snoc, Nat.pow_succ]
    omega
theorem numP_four {x : List UInt8} (h : x.length = 4) : numP x = num4 x := by
  match x, h with
  | [a, b, c, d], _ =>
    show 256 * (256 * (256 * (256 * 0 + a.toNat) + b.toNat) + c.toNat) + d.toNat = a.toNat * 16777216 + b.toNat * 65536 + c.toNat * 256 + d.toNat
    omega
set_option maxRecDepth 4000 in
theorem numberR_spec {w : World} {s : List UInt8} {a : Nat} (ha : a ≤ 4611686018427387904) (hs : s.length ≤ 4611686018427387904) :
    Calls Tryd.prog 51 #[vs s, vi a] w (Ret fun r w' => r = vi (numberM s a) ∧ w = w') := by
  refine calls_of_Wc Tryd.func51 rfl Tryd.ntmps51 rfl ?_
  (repeat' (first | refine Wl.moveE (by conv => { lhs; whnf }) ?_ | refine Wl.assignE (by conv => { lhs; whnf }) ?_ | refine Wl.nil ?_ | refine Wl.guardY rfl rfl ?_ | refine Wl.pickFE rfl (by conv => { lhs; whnf }) ?_ | refine Wl.lenStr rfl ?_ | refine Qseq.normal ?_ | refine Wc.seq ?_ | refine Wc.region ?_ | refine Wc.block ?_ | refine Wc.skip ?_ | refine Wc.ret ?_ | refine Qseq.ret ?_ | refine Wc.condT rfl ?_ | refine Wc.condF rfl ?_ | refine Wl.add rfl rfl (by omega) (by omega) ?_ | (refine Wl.lss rfl rfl (fun _ => ?_) (fun _ => ?_) <;> (first | (exfalso; omega) | skip)) | refine Wl.gtr rfl rfl (fun _ => ?_) (fun _ => ?_)))
  · unfold numberM
    rw [if_neg (by omega)]
    exact Qfn.ret1 rfl rfl ⟨_, rfl, rfl, rfl⟩
  · have hal : a + 4 ≤ s.length := by omega
    refine Wc.loop (σ := Nat) (fun i => [(0, vs s), (1, vi a), (5, vi (numP ((s.drop a).take i))), (6, vi i)]) (fun i w' => i ≤ 4 ∧ w = w') (fun i => 4 - i) 0 ⟨rfl, rfl, rfl, rfl, trivial⟩ ⟨Nat.zero_le _, rfl⟩ ?_
    rintro i G _ ⟨hi, rfl⟩
    have hl : ((s.drop a).take i).length = i := by rw [List.length_take, List.length_drop]; omega
    have hb := numP_lt i _ hl
    have hb4 : 256 ^ i ≤ 256 ^ 4 := Nat.pow_le_pow_right (by omega) hi
    simp only [upds]
    (repeat' (first | refine Wl.moveE (by conv => { lhs; whnf }) ?_ | refine Wl.nil ?_ | refine Qseq.normal ?_ | refine Wc.seq ?_ | refine Wc.region ?_ | refine Wc.block ?_ | refine Wc.skip ?_ | refine Wc.exit ?_ | refine Qseq.exit ?_ | refine Qblk.hit ?_ | refine Qloop.exit ?_ | refine Wc.condT rfl ?_ | refine Wc.condF rfl ?_ | refine Wl.add rfl rfl (by omega) (by omega) ?_ | refine Wl.mul rfl rfl (by omega) (by omega) ?_ | refine Wl.lss rfl rfl (fun _ => ?_) (fun _ => ?_)))
    · obtain ⟨c, hc⟩ := get_byte s (k := a + i) (by omega)
      have hc2 : (s.drop a)[i]? = some c := by rw [List.getElem?_drop]; exact hc
      have hcl := c.toNat_lt
      refine Wl.idxStr rfl rfl (by omega) (by rw [show ((a : Int) + (i : Int)).toNat = a + i by omega]; exact hc) ?_
      (repeat' (refine Wl.convI rfl ?_))
      rw [show IntKind.i64.wrap (c.toNat : Int) = (c.toNat : Int) by rw [IntKind.wrap_i64]; omega]
      refine Wl.add rfl rfl (by omega) (by omega) ?_
      (repeat' (first | refine Wl.moveE (by conv => { lhs; whnf }) ?_ | refine Wl.assignE (by conv => { lhs; whnf }) ?_ | refine Wl.nil ?_ | refine Qseq.normal ?_ | refine Wc.region ?_ | refine Qblk.normal ?_ | refine Wl.add rfl rfl (by omega) (by omega) ?_))
      refine Qloop.normal (i + 1) ⟨rfl, rfl, ?_, rfl, trivial⟩ ⟨by omega, rfl⟩ (by omega)
      show vi _ = vi _
      rw [take_snoc hc2, numP_snoc]
      congr 1
    · have e : i = 4 := by omega
      subst e
      refine Wl.minI rfl rfl ?_
      (repeat' (first | refine Wl.assignE (by conv => { lhs; whnf }) ?_ | refine Wl.nil ?_ | refine Qseq.normal ?_ | refine Wc.ret ?_))
      refine Qfn.ret1 rfl rfl ⟨_, rfl, ?_, rfl⟩
      show vi _ = vi _
      unfold numberM
      rw [if_pos hal, ← numP_four hl]
      congr 1
      split <;> omega
theorem ended_take {s : List UInt8} {a b : Nat} (hab : a ≤ b) (hb : b ≤ s.length) (h0 : (0 : UInt8) ∉ (s.take b).drop a) (he : b = s.length ∨ s[b]? = some 0) : endedM s a = (s.take b).drop a := by
  unfold endedM
  have e : s.drop a = (s.take b).drop a ++ s.drop b := by
    conv => lhs; rw [← List.take_append_drop b s]
    rw [List.drop_append_of_le_length (by rw [List.length_take]; omega)]
  rw [e]
  have h1 : ∀ c ∈ (s.take b).drop a, (c != 0) = true := fun c hc => by
    simp only [bne_iff_ne, ne_eq]
    rintro rfl
    exact h0 hc
  rw [List.takeWhile_append_of_pos h1]
  have h2 : (s.drop b).takeWhile (fun c => c != 0) = [] := by
    rcases he with rfl | he
    · simp
    · rw [List.drop_eq_getElem_cons (List.getElem?_eq_some_iff.1 he).1, (List.getElem?_eq_some_iff.1 he).2]
      simp
  rw [h2, List.append_nil]
set_option maxRecDepth 4000 in
theorem endedR_spec {w : World} {s : List UInt8} {a : Nat} (hs : s.length ≤ 4611686018427387904) :
    Calls Tryd.prog 52 #[vs s, vi a] w (Ret fun r w' => r = vs (endedM s a) ∧ w = w') := by
  refine calls_of_Wc Tryd.func52 rfl Tryd.ntmps52 rfl ?_
  (repeat' (first | refine Wl.moveE (by conv => { lhs; whnf }) ?_ | refine Wl.assignE (by conv => { lhs; whnf }) ?_ | refine Wl.nil ?_ | refine Wl.guardY rfl rfl ?_ | refine Wl.pickFE rfl (by conv => { lhs; whnf }) ?_ | refine Wl.lenStr rfl ?_ | refine Qseq.normal ?_ | refine Wc.seq ?_ | refine Wc.region ?_ | refine Wc.block ?_ | refine Wc.skip ?_ | refine Wc.ret ?_ | refine Qseq.ret ?_ | refine Wc.condT rfl ?_ | refine Wc.condF rfl ?_ | (refine Wl.lss rfl rfl (fun _ => ?_) (fun _ => ?_) <;> (first | (exfalso; omega) | skip)) | refine Wl.gtr rfl rfl (fun _ => ?_) (fun _ => ?_)))
  · have e : endedM s a = [] := by unfold endedM; rw [List.drop_of_length_le (by omega)]; rfl
    rw [e]
    exact Qfn.ret1 rfl rfl ⟨_, rfl, rfl, rfl⟩
  · refine Wc.loop (σ := Nat) (fun b => [(0, vs s), (1, vi a), (5, vi b)]) (fun b w' => a ≤ b ∧ b ≤ s.length ∧ (0 : UInt8) ∉ (s.take b).drop a ∧ w = w') (fun b => s.length - b) a ⟨rfl, rfl, rfl, trivial⟩ ⟨Nat.le_refl _, by omega, by rw [List.drop_of_length_le (by rw [List.length_take]; omega)]; simp, rfl⟩ ?_
    rintro b G _ ⟨hab, hb, h0, rfl⟩
    simp only [upds]
    (repeat' (first | refine Wl.moveE (by conv => { lhs; whnf }) ?_ | refine Wl.nil ?_ | refine Wl.guardY rfl rfl ?_ | refine Wl.guardN rfl rfl ?_ | refine Wl.pickFE rfl (by conv => { lhs; whnf }) ?_ | refine Wl.lenStr rfl ?_ | refine Qseq.normal ?_ | refine Wc.seq ?_ | refine Wc.region ?_ | refine Wc.exit ?_ | refine Qseq.exit ?_ | refine Qblk.hit ?_ | refine Qloop.exit ?_ | refine Wc.condF rfl ?_ | refine Wl.lss rfl rfl (fun _ => ?_) (fun _ => ?_)))
    · obtain ⟨c, hc⟩ := get_byte s (k := b) (by omega)
      refine Wl.idxStr rfl rfl (by omega) (by rw [Int.toNat_natCast]; exact hc) ?_
      (repeat' (first | refine Wl.moveE (by conv => { lhs; whnf }) ?_ | refine Wl.assignE (by conv => { lhs; whnf }) ?_ | refine Wl.nil ?_ | refine Wl.guardY rfl rfl ?_ | refine Wl.pickTE rfl (by conv => { lhs; whnf }) ?_ | refine Qseq.normal ?_ | refine Wc.seq ?_ | refine Wc.region ?_ | refine Wc.block ?_ | refine Wc.skip ?_ | refine Wc.exit ?_ | refine Qseq.exit ?_ | refine Qblk.normal ?_ | refine Qblk.hit ?_ | refine Qloop.exit ?_ | refine Wc.condT rfl ?_ | refine Wc.condF rfl ?_ | refine Wl.add rfl rfl (by omega) (by omega) ?_ | refine Wl.neq rfl rfl (fun _ => ?_) (fun _ => ?_)))
      · refine Qloop.normal (b + 1) ⟨rfl, rfl, rfl, trivial⟩ ⟨by omega, by omega, ?_, rfl⟩ (by omega)
        rw [take_snoc hc, List.drop_append_of_le_length (by rw [List.length_take]; omega), List.mem_append, List.mem_singleton]
        rintro (e | e)
        · exact h0 e
        · subst e; exact absurd rfl (by assumption)
      · have hc0 : c = 0 := UInt8.toNat_inj.1 (by rw [UInt8.toNat_zero]; omega)
        subst hc0
        refine Wl.strBoth rfl rfl rfl (by omega) (by omega) (by omega) ?_
        rw [Int.toNat_natCast, Int.toNat_natCast, ← ended_take hab hb h0 (.inr hc)]
        (repeat' (first | refine Wl.assignE (by conv => { lhs; whnf }) ?_ | refine Wl.nil ?_ | refine Qseq.normal ?_ | refine Wc.ret ?_))
        exact Qfn.ret1 rfl rfl ⟨_, rfl, rfl, rfl⟩
    · refine Wl.strBoth rfl rfl rfl (by omega) (by omega) (by omega) ?_
      rw [Int.toNat_natCast, Int.toNat_natCast, ← ended_take hab hb h0 (.inl (by omega))]
      (repeat' (first | refine Wl.assignE (by conv => { lhs; whnf }) ?_ | refine Wl.nil ?_ | refine Qseq.normal ?_ | refine Wc.ret ?_))
      exact Qfn.ret1 rfl rfl ⟨_, rfl, rfl, rfl⟩
theorem upR_spec {w : World} {n : Nat} (hn : n ≤ 4611686018427387904) : Calls Tryd.prog 53 #[vi n] w (Ret fun r w' => r = vi (up4 n) ∧ w = w') := by
  refine calls_of_Wc Tryd.func53 rfl Tryd.ntmps53 rfl ?_
  (repeat' (first | refine Wl.moveE (by conv => { lhs; whnf }) ?_ | refine Wl.assignE (by conv => { lhs; whnf }) ?_ | refine Wl.nil ?_ | refine Qseq.normal ?_ | refine Wc.seq ?_ | refine Wc.region ?_ | refine Wl.add rfl rfl (by omega) (by omega) ?_))
  refine Wl.quoW rfl rfl (by omega) ?_
  rw [show ((n : Int) + 3).tdiv 4 = (((n + 3) / 4 : Nat) : Int) from rfl, show IntKind.i64.wrap (((n + 3) / 4 : Nat) : Int) = (((n + 3) / 4 : Nat) : Int) by rw [IntKind.wrap_i64]; omega]
  (repeat' (first | refine Wl.assignE (by conv => { lhs; whnf }) ?_ | refine Wl.nil ?_ | refine Qseq.normal ?_ | refine Wc.ret ?_ | refine Wl.mul rfl rfl (by omega) (by omega) ?_))
  refine Qfn.ret1 rfl rfl ⟨_, rfl, ?_, rfl⟩
  show vi _ = vi _
  unfold up4
  congr 1
end Go.Proofs.YtlkhajheecglgaaDoor

namespace Go.Proofs.YtlkhajheecglgaaDoor
open Go Wk
open Go.RowKit (Below)
attribute [local irreducible] Go.Calls

theorem decM_cases (s : List UInt8) : (∃ l, decM s = (l, 0) ∧ treeOk l = true ∧ s = encL l) ∨ decM s = ([], 4) := by
  unfold decM
  cases h : readM s with
  | none => exact .inr rfl
  | some q =>
    obtain ⟨l, hd⟩ := q
    obtain ⟨h1, h2, _⟩ := readM_sound h
    exact .inl ⟨l, rfl, h1, h2⟩
theorem mod_range {a : Int} {L : Nat} (h : 0 < L) : ∃ n : Nat, ((a.tmod L) + L).tmod L = (n : Int) ∧ n < L ∧ -(L : Int) < a.tmod L ∧ a.tmod L < L := by
  have h1 : -(L : Int) < a.tmod L := by
    have := Int.lt_tmod_of_pos a (b := (L : Int)) (by omega)
    exact this
  have h2 : a.tmod L < L := Int.tmod_lt_of_pos a (by omega)
  obtain ⟨m, hm⟩ := Int.eq_ofNat_of_zero_le (show 0 ≤ a.tmod L + L by omega)
  refine ⟨m % L, ?_, Nat.mod_lt _ h, h1, h2⟩
  rw [hm]; rfl
section
variable {P : Program} {n : Nat} {ds : List Deferred} {Q : Po} {F : Fr} {w : World} {ops rest : List Oper} {d : Nat} {ty : TypeId} {pos : String} {aft : Array Edge}
theorem run_xor8 (c e : UInt8) : Op.intBits .xor .u8 (c.toNat : Int) (e.toNat : Int) = pure (.int .u8 ((c ^^^ e).toNat : Int)) := by
  have hb : ∀ c : UInt8, BitVec.ofInt IntKind.u8.bits (c.toNat : Int) = c.toBitVec := fun c => by
    show BitVec.ofInt 8 (c.toNat : Int) = c.toBitVec
    rw [BitVec.ofInt_natCast]; exact BitVec.ofNat_uInt8ToNat c
  have h1 : (BitVec.ofInt IntKind.u8.bits (c.toNat : Int) ^^^ BitVec.ofInt IntKind.u8.bits (e.toNat : Int)).toNat = (c ^^^ e).toNat := by rw [hb, hb]; rfl
  simp only [Op.intBits, h1]
  have := (c ^^^ e).toNat_lt
  rw [wrap_u rfl (by omega) (by show _ < (2 : Int) ^ 8; omega)]
theorem Wk.Wl.xor8 {x y : Operand} {t t' : TypeId} {c e : UInt8} (hx : ev n F x = by8 c) (hy : ev n F y = by8 e) (k : Wl P n ds Q ops rest (upd F d (by8 (c ^^^ e))) w) : Wl P n ds Q ops (⟨some d, .binOp .xor t x y t', ty, pos, aft, none⟩ :: rest) F w := by
  refine Wl.val ?_ k
  simp only [execOp, hx, hy, by8, Sem.run_bind, run_eqGuard_int, Result.andThen_ok]
  have : binOp .xor t (.int .u8 (c.toNat : Int)) (.int .u8 (e.toNat : Int)) = Op.intBits .xor .u8 (c.toNat : Int) (e.toNat : Int) := by simp [binOp]
  rw [this, run_xor8]; rfl
theorem Wk.Wl.beql {x y : Operand} {t t' : TypeId} {a b : Bool} [ht : Und P t .bool] (hx : ev n F x = .bool a) (hy : ev n F y = .bool b) (c : Wl P n ds Q ops rest (upd F d (.bool (a == b))) w) : Wl P n ds Q ops (⟨some d, .binOp .eql t x y t', ty, pos, aft, none⟩ :: rest) F w := by
  refine Wl.val ?_ c
  have h : (Op.equalIn 10000 t (.bool a) (.bool b)).run P w = .ok (a == b) w := run_equalIn_bool' (P := P) w 9999 t a b ht.h
  have hb : (binOp .eql t (.bool a) (.bool b)).run P w = .ok (.bool (a == b)) w := by
    simp only [binOp]
    simp [Op.equal, Op.maxDepth, h]
  simp only [execOp, hx, hy, Sem.run_bind, run_eqGuard_bool, Result.andThen_ok, hb, Sem.run_pure]
theorem Wk.Wl.strBytesF {x : Operand} {t t' e : TypeId} {l : List UInt8} [ht : Und P t .string] [ht' : Und P t' (.slice e)] [he : Und P e (.int .u8)] (hx : ev n F x = vs l) (hlm : l.length ≤ maxLen)
    (c : ∀ w' cap C, w'.heap[w.heap.size]? = some (.cells C e (C.size, C.size + 1)) → C.toList.take l.length = l.map (fun b => .int .u8 b.toNat) → l.length ≤ C.size → New w w' → w'.heap.size = w.heap.size + 1 →
      RdS (one fun b : UInt8 => .int .u8 b.toNat) 1 (fun b => w.heap.size ≤ b) w' (.slice (some ⟨w.heap.size, 0, none⟩) l.length cap) l → Wl P n ds Q ops rest (upd F d (.slice (some ⟨w.heap.size, 0, none⟩) l.length cap)) w') :
    Wl P n ds Q ops (⟨some d, .convert t t' x, ty, pos, aft, none⟩ :: rest) F w := by
  have hs : (⟨l.toArray⟩ : ByteArray).size = l.length := by simp [ByteArray.size]
  have hr := Lib.run_convert_string_bytes (P := P) w t t' e ⟨l.toArray⟩ ht.h ht'.h he.h
  have hge := grownCap_ge w l.length 0 e
  have hle := grownCap_le_maxLen w l.length 0 e hlm
  rw [hs] at hr
  have hC : Lib.bytesCells w e ⟨l.toArray⟩ = (l.map (fun b => Value.int .u8 b.toNat)).toArray ++ Array.replicate (grownCap w l.length 0 e - l.length) (.int .u8 0) := by
    simp [Lib.bytesCells, hs]
  have hnew := Lib.bytesWorld_at_new w e ⟨l.toArray⟩
  have htk : (Lib.bytesCells w e ⟨l.toArray⟩).toList.take l.length = l.map (fun b => Value.int .u8 b.toNat) := by
    rw [hC, Array.toList_append, List.take_append_of_le_length (by simp), List.take_of_length_le (by simp)]
  have hsz : l.length ≤ (Lib.bytesCells w e ⟨l.toArray⟩).size := by rw [hC]; simp
  have hn : New w (Lib.bytesWorld w e ⟨l.toArray⟩) := by
    refine ⟨rfl, rfl, rfl, by rw [Lib.bytesWorld_size]; omega, fun k hk _ => Lib.bytesWorld_at_old w e _ k hk⟩
  refine Wl.val (w' := Lib.bytesWorld w e ⟨l.toArray⟩) ?_ (c _ (grownCap w l.length 0 e) _ hnew htk hsz hn (Lib.bytesWorld_size w e _) ?_)
  · simp only [execOp, hx, Sem.run_bind, hr, Result.andThen_ok, Sem.run_pure]
  · refine .inr (.inr ⟨w.heap.size, 0, _, _, _, _, rfl, Nat.le_refl _, hnew, hge, hle, by omega, fun i b hb => ?_⟩)
    have hi : i < l.length := (List.getElem?_eq_some_iff.1 hb).1
    have h1 := congrArg (fun q => q[i]?) htk
    simp only [List.getElem?_take, if_pos hi, List.getElem?_map, hb, Option.map_some] at h1
    obtain ⟨h2, h3⟩ := List.getElem?_eq_some_iff.1 h1
    simp only [one, Nat.zero_add, Nat.mul_one]
    rw [List.drop_eq_getElem_cons h2, h3]; rfl

/-- A store into a row of which a part beside is frozen. -/
theorem Wk.Wl.storeF {x y : Operand} {e bytes : Nat} {agg : Bool} {z u : Value} {b o : Nat} {T : TypeId} {C : Array Value} {fr : Nat × Nat} [he : ElT P e 1 bytes agg z] (h : w.heap[b]? = some (.cells C T fr)) (hx : ev n F x = .pointer (some ⟨b, o, none⟩)) (ho : o < C.size) (hfr : o < fr.1) (hy : ev n F y = u) (hu : u.oneCell' = true)
    (c : ∀ w', w'.heap[b]? = some (.cells (C.setIfInBounds o u) T fr) → Chg (fun k => k = b) w w' → Wl P n ds Q ops rest F w') : Wl P n ds Q ops (⟨none, .store e x y, ty, pos, aft, none⟩ :: rest) F w := by
  have huc : u.cells = #[u] := by cases u <;> simp_all [Value.cells, Value.oneCell']
  have hc : w.cell? ⟨b, o, none⟩ = some C[o] := by simp [World.cell?, h, ho]
  have hz : w.frozen? ⟨b, o, none⟩ = false := by simp [World.frozen?, h]; omega
  refine Wl.unit (w' := w.setCell ⟨b, o, none⟩ u) ?_ (c _ ?_ (Chg.store b o u))
  · simp only [execOp, hx, hy, Sem.run_bind, Instr.storeAt, Instr.sureAddr, storeVar, Sem.run_pure, Result.andThen_ok, he.sizeOf, huc]
    simp [storeCells, run_store P w _ _ _ hu, addr_add, hc, hz]
  · simp [World.setCell, Array.getElem?_modify, h]
end
theorem xor_ne {s : List UInt8} {n : Nat} {c e : UInt8} (h : s[n]? = some c) : s.set n (c ^^^ e) = s ↔ e = 0 := by
  have hn := (List.getElem?_eq_some_iff.1 h).1
  constructor
  · intro he
    have h1 : (s.set n (c ^^^ e))[n]? = s[n]? := by rw [he]
    rw [List.getElem?_set, if_pos rfl, if_pos hn, h] at h1
    have h2 : c ^^^ e = c := by simpa using h1
    have h3 : c ^^^ (c ^^^ e) = c ^^^ c := by rw [h2]
    rw [← UInt8.xor_assoc, UInt8.xor_self, UInt8.zero_xor] at h3
    exact h3
  · rintro rfl
    rw [UInt8.xor_zero]
    obtain ⟨h1, h2⟩ := List.getElem?_eq_some_iff.1 h
    rw [← h2]; exact List.set_getElem_self h1
theorem tree_TxOk {l : List Nd} (h : treeOk l = true) : ∀ x ∈ l, TxOk x.props := fun x hx p hp => by
  have := ((propsOk_all (tree_pr h x hx)).2 p hp).1.2
  simp only [maxLen]; omega
set_option maxRecDepth 4000 in
set_option maxHeartbeats 4000000 in
theorem one_law {w : World} {s : List UInt8} {at_ : Int} {y : UInt8} (hs : s.length ≤ 9223372036854775806) :
    Calls Tryd.prog 3 #[vs s, vi at_, by8 y] w (Ret fun r w' => r = .bool true ∧ New w w') := by
  refine calls_of_Wc Tryd.func3 rfl Tryd.ntmps3 rfl ?_
  (repeat' (first | refine Wl.moveE (by conv => { lhs; whnf }) ?_ | refine Wl.assignE (by conv => { lhs; whnf }) ?_ | refine Wl.nil ?_ | refine Qseq.normal ?_ | refine Wc.seq ?_ | refine Wc.region ?_))
  refine Wl.call (Decode_spec hs) rfl ?_
  rintro _ w1 ⟨nv, lab, pvs, rfl, tr, n1⟩
  rcases decM_cases s with ⟨l, hd, hok, hse⟩ | hd
  rotate_left
  · rw [hd] at tr ⊢
    obtain ⟨na, nc, rfl, _, _⟩ := tr.rd.form
    (repeat' (first | refine Wl.moveE (by conv => { lhs; whnf }) ?_ | refine Wl.assignE (by conv => { lhs; whnf }) ?_ | refine Wl.nil ?_ | refine Wl.extract rfl rfl ?_ | refine Wl.guardY rfl rfl ?_ | refine Wl.lenS rfl ?_ | refine Qseq.normal ?_ | refine Wc.seq ?_ | refine Wc.region ?_ | refine Wc.condT rfl ?_ | (refine Wl.eql rfl rfl (fun _ => ?_) (fun _ => ?_) <;> (first | (exfalso; contradiction) | skip)) | (refine Wl.neq rfl rfl (fun _ => ?_) (fun _ => ?_) <;> (first | (exfalso; omega) | skip))))
    refine Wl.call awake_spec rfl ?_
    rintro _ w2 ⟨rfl, n2⟩
    (repeat' (first | refine Wl.assignE (by conv => { lhs; whnf }) ?_ | refine Wl.nil ?_ | refine Wl.pickTE rfl (by conv => { lhs; whnf }) ?_ | refine Qseq.normal ?_ | refine Wc.ret ?_ | refine Qseq.ret ?_))
    exact Qfn.ret1 rfl rfl ⟨_, rfl, rfl, New.trans n1 n2⟩
  rw [hd] at tr ⊢
  have htx := tree_TxOk hok
  have rl := tr.rd
  obtain ⟨na, nc, hnv, _, _⟩ := rl.form
  (repeat' (first | refine Wl.moveE (by conv => { lhs; whnf }) ?_ | refine Wl.assignE (by conv => { lhs; whnf }) ?_ | refine Wl.nil ?_ | refine Wl.extract rfl rfl ?_ | refine Qseq.normal ?_ | refine Wc.seq ?_ | refine Wc.region ?_ | refine Wc.skip ?_ | refine Wc.condF rfl ?_ | (refine Wl.neq rfl rfl (fun _ => ?_) (fun _ => ?_) <;> (first | (exfalso; omega) | skip))))
  refine Wl.call (Encode_spec rl htx) rfl ?_
  rintro _ w2 ⟨rfl, n2⟩
  have rl2 := rl.keep stableNd n2.keep
  have n02 := New.trans n1 n2
  rw [if_pos hok, if_pos hok, ← hse]
  have hel := encL_length l
  rw [← hse] at hel
  have hs1 := struct_size hok
  have hs2 := names_size hok
  have hs3 := strings_size l
  obtain ⟨n, hn, hnl, hm1, hm2⟩ := mod_range (a := at_) (L := s.length) (by omega)
  obtain ⟨c, hc⟩ := get_lt s (k := n) hnl
  (repeat' (first | refine Wl.moveE (by conv => { lhs; whnf }) ?_ | refine Wl.assignE (by conv => { lhs; whnf }) ?_ | refine Wl.nil ?_ | refine Wl.extract rfl rfl ?_ | refine Wl.guardY rfl rfl ?_ | refine Wl.pickFE rfl (by conv => { lhs; whnf }) ?_ | refine Wl.lenStr rfl ?_ | refine Qseq.normal ?_ | refine Wc.seq ?_ | refine Wc.region ?_ | refine Wc.skip ?_ | refine Wc.condF rfl ?_ | (refine Wl.neq rfl rfl (fun _ => ?_) (fun _ => ?_) <;> (first | (exfalso; omega) | skip)) | (refine Wl.sneq rfl rfl (fun _ => ?_) (fun _ => ?_) <;> (first | (exfalso; contradiction) | skip))))
  refine Wl.remW rfl rfl (by omega) ?_
  (repeat' (first | refine Wl.moveE (by conv => { lhs; whnf }) ?_ | refine Wl.lenStr rfl ?_ | refine Wl.add rfl rfl (by omega) (by omega) ?_))
  refine Wl.remW rfl rfl (by omega) ?_
  rw [hn]
  (repeat' (first | refine Wl.moveE (by conv => { lhs; whnf }) ?_ | refine Wl.assignE (by conv => { lhs; whnf }) ?_ | refine Wl.nil ?_ | refine Qseq.normal ?_ | refine Wc.seq ?_ | refine Wc.region ?_))
  refine Wl.strBytesF rfl (by simp only [maxLen]; omega) fun w3 cap C hC htk hsz n3 s3 rb => ?_
  (repeat' (first | refine Wl.moveE (by conv => { lhs; whnf }) ?_ | refine Wl.assignE (by conv => { lhs; whnf }) ?_ | refine Wl.nil ?_ | refine Qseq.normal ?_ | refine Wc.seq ?_ | refine Wc.region ?_))
  refine Wl.idxLoadV rb rfl rfl (by omega) (by rw [Int.toNat_natCast]; exact hc) rfl rfl fun p3 => ?_
  (repeat' (refine Wl.moveE (by conv => { lhs; whnf }) ?_))
  refine Wl.xor8 rfl rfl ?_
  refine Wl.idxP rfl rfl (by omega) (by omega) ?_
  rw [show 0 + (n : Int).toNat * 1 = n by omega]
  refine Wl.storeF (u := by8 (c ^^^ y)) hC rfl (by omega) (by dsimp only; omega) rfl rfl fun w4 hC4 c4 => ?_
  have n34 : New w2 w4 := Chg.trans n3 c4 fun k hk e => by omega
  have n04 := New.trans n02 n34
  have rl4 := rl2.keep stableNd n34.keep
  have rb4 : RdS (one by8) 1 (fun b => w2.heap.size ≤ b) w4 (.slice (some ⟨w2.heap.size, 0, none⟩) s.length cap) (s.set n (c ^^^ y)) := by
    rcases rb with ⟨e, _⟩ | ⟨a, cap', e, e2, _⟩ | ⟨b, off, cap', cur, e', fr, e, hb, hh, h1, h2, h3, h4⟩
    · cases e
    · rw [e2] at hnl; simp at hnl
    · simp only [Value.slice.injEq, Option.some.injEq, Addr.mk.injEq] at e
      obtain ⟨⟨rfl, rfl, _⟩, _, rfl⟩ := e
      rw [hC] at hh
      cases hh
      refine .inr (.inr ⟨_, 0, cap, _, _, _, by rw [List.length_set], Nat.le_refl _, hC4, by rw [List.length_set]; exact h1, h2, by rw [List.length_set]; simpa using h3, fun i x hx => ?_⟩)
      have hi : i < s.length := by have := (List.getElem?_eq_some_iff.1 hx).1; simpa using this
      rw [List.getElem?_set] at hx
      simp only [one, Nat.zero_add, Nat.mul_one, Array.toList_setIfInBounds] at h4 ⊢
      have hlen : i < (C.toList.set n (by8 (c ^^^ y))).length := by simp; omega
      rw [List.drop_eq_getElem_cons hlen, List.getElem_set]
      by_cases hni : n = i
      · subst hni
        rw [if_pos rfl, if_pos hnl] at hx
        cases hx
        rw [if_pos rfl]; rfl
      · rw [if_neg hni] at hx
        rw [if_neg hni]
        have h5 := h4 i x hx
        rw [List.drop_eq_getElem_cons (by simp; omega)] at h5
        simpa using h5
  (repeat' (first | refine Wl.moveE (by conv => { lhs; whnf }) ?_ | refine Wl.nil ?_ | refine Qseq.normal ?_ | refine Wc.seq ?_ | refine Wc.region ?_))
  refine Wl.bytesStr rb4 rfl ?_
  have hx := xor_ne (e := y) hc
  have hbl : (s.set n (c ^^^ y)).length = s.length := List.length_set
  generalize hB : s.set n (c ^^^ y) = B at *
  refine Wl.call (Decode_spec (s := B) (by omega)) rfl ?_
  rintro _ w5 ⟨mv, lab5, pvs5, rfl, tr5, n5⟩
  have n05 := New.trans n04 n5
  have hy0 : (y.toNat : Int) = 0 ↔ y = 0 := ⟨fun h => UInt8.toNat_inj.1 (by rw [UInt8.toNat_zero]; omega), fun h => by rw [h]; rfl⟩
  rcases decM_cases B with ⟨m, hdm, hokm, hme⟩ | hdm
  rotate_left
  · rw [hdm] at tr5 ⊢
    obtain ⟨ma, mc, rfl, _, _⟩ := tr5.rd.form
    have hyn : ¬ (y.toNat : Int) = 0 := fun h => by
      rw [hx.2 (hy0.1 h), hd] at hdm
      cases hdm
    (repeat' (first | refine Wl.moveE (by conv => { lhs; whnf }) ?_ | refine Wl.assignE (by conv => { lhs; whnf }) ?_ | refine Wl.nil ?_ | refine Wl.extract rfl rfl ?_ | refine Wl.guardY rfl rfl ?_ | refine Wl.pickTE rfl (by conv => { lhs; whnf }) ?_ | refine Wl.lenS rfl ?_ | refine Qseq.normal ?_ | refine Wc.seq ?_ | refine Wc.region ?_ | refine Wc.condT rfl ?_ | (refine Wl.eql rfl rfl (fun _ => ?_) (fun _ => ?_) <;> (first | (exfalso; omega) | (exfalso; contradiction) | skip)) | (refine Wl.neq rfl rfl (fun _ => ?_) (fun _ => ?_) <;> (first | (exfalso; omega) | skip))))
    refine Wl.call awake_spec rfl ?_
    rintro _ w6 ⟨rfl, n6⟩
    (repeat' (first | refine Wl.assignE (by conv => { lhs; whnf }) ?_ | refine Wl.nil ?_ | refine Wl.pickTE rfl (by conv => { lhs; whnf }) ?_ | refine Qseq.normal ?_ | refine Wc.ret ?_ | refine Qseq.ret ?_))
    exact Qfn.ret1 rfl rfl ⟨_, rfl, rfl, New.trans n05 n6⟩
  rw [hdm] at tr5 ⊢
  have htm := tree_TxOk hokm
  have rm := tr5.rd
  obtain ⟨ma, mc, hmv, _, _⟩ := rm.form
  (repeat' (first | refine Wl.moveE (by conv => { lhs; whnf }) ?_ | refine Wl.assignE (by conv => { lhs; whnf }) ?_ | refine Wl.nil ?_ | refine Wl.extract rfl rfl ?_ | refine Qseq.normal ?_ | refine Wc.seq ?_ | refine Wc.region ?_ | refine Wc.skip ?_ | refine Wc.condF rfl ?_ | (refine Wl.neq rfl rfl (fun _ => ?_) (fun _ => ?_) <;> (first | (exfalso; omega) | skip))))
  refine Wl.call (Encode_spec rm htm) rfl ?_
  rintro _ w6 ⟨rfl, n6⟩
  rw [if_pos hokm, if_pos hokm, ← hme]
  have n56 := New.trans n5 n6
  have rb6 := rb4.keep (stable_one _) n56.keep
  (repeat' (first | refine Wl.moveE (by conv => { lhs; whnf }) ?_ | refine Wl.assignE (by conv => { lhs; whnf }) ?_ | refine Wl.nil ?_ | refine Wl.extract rfl rfl ?_ | refine Wl.guardY rfl rfl ?_ | refine Qseq.normal ?_ | refine Wc.seq ?_ | refine Wc.region ?_ | (refine Wl.eql rfl rfl (fun _ => ?_) (fun _ => ?_) <;> (first | (exfalso; omega) | skip))))
  refine Wl.bytesStr rb6 rfl ?_
  (repeat' (first | refine Wl.moveE (by conv => { lhs; whnf }) ?_ | refine Wl.guardY rfl rfl ?_ | refine Wl.pickTE rfl (by conv => { lhs; whnf }) ?_ | (refine Wl.seql rfl rfl (fun _ => ?_) (fun _ => ?_) <;> (first | (exfalso; contradiction) | skip))))
  refine Wl.call (alike_spec (rl4.keep stableNd n56.keep) (rm.keep stableNd n6.keep)) rfl ?_
  rintro _ w7 ⟨q, rfl, hq, n7⟩
  (repeat' (first | refine Wl.moveE (by conv => { lhs; whnf }) ?_ | refine Wl.guardY rfl rfl ?_ | refine Wl.eql rfl rfl (fun _ => ?_) (fun _ => ?_)))
  · have hyy : y = 0 := hy0.1 (by assumption)
    have hBs := hx.2 hyy
    rw [hBs, hd] at hdm
    have hlm : l = m := by cases hdm; rfl
    obtain rfl : q = true := hq.2 hlm
    refine Wl.beql rfl rfl ?_
    rw [show (true == true) = true from rfl]
    (repeat' (first | refine Wl.moveE (by conv => { lhs; whnf }) ?_ | refine Wl.guardY rfl rfl ?_ | refine Wl.pickTE rfl (by conv => { lhs; whnf }) ?_))
    refine Wl.call awake_spec rfl ?_
    rintro _ w8 ⟨rfl, n8⟩
    (repeat' (first | refine Wl.assignE (by conv => { lhs; whnf }) ?_ | refine Wl.nil ?_ | refine Wl.pickTE rfl (by conv => { lhs; whnf }) ?_ | refine Qseq.normal ?_ | refine Wc.ret ?_))
    exact Qfn.ret1 rfl rfl ⟨_, rfl, rfl, New.trans (New.trans (New.trans n05 n6) n7) n8⟩
  · have hyy : y ≠ 0 := fun e => absurd (hy0.2 e) (by assumption)
    have hqf : q = false := by
      cases q with
      | false => rfl
      | true =>
        have e : l = m := hq.1 rfl
        exact absurd (hx.1 (by rw [hme, hse, e])) hyy
    subst hqf
    refine Wl.beql rfl rfl ?_
    rw [show (false == false) = true from rfl]
    (repeat' (first | refine Wl.moveE (by conv => { lhs; whnf }) ?_ | refine Wl.guardY rfl rfl ?_ | refine Wl.pickTE rfl (by conv => { lhs; whnf }) ?_))
    refine Wl.call awake_spec rfl ?_
    rintro _ w8 ⟨rfl, n8⟩
    (repeat' (first | refine Wl.assignE (by conv => { lhs; whnf }) ?_ | refine Wl.nil ?_ | refine Wl.pickTE rfl (by conv => { lhs; whnf }) ?_ | refine Qseq.normal ?_ | refine Wc.ret ?_))
    exact Qfn.ret1 rfl rfl ⟨_, rfl, rfl, New.trans (New.trans (New.trans n05 n6) n7) n8⟩
end Go.Proofs.YtlkhajheecglgaaDoor

namespace Go.Proofs.YtlkhajheecglgaaDoor
open Go Wk

theorem enc_lt {l : List Nd} (h : treeOk l = true) : (encL l).length < 4294967296 := by
  have h1 := encL_length l
  have h2 := struct_size h
  have h3 := names_size h
  have h4 := strings_size l
  omega
theorem take8 {x y r s : List UInt8} (hx : x.length = 4) (hy : y.length = 4) : ((x ++ (y ++ r)) ++ s).take 8 = x ++ y := by
  rw [show x ++ (y ++ r) ++ s = (x ++ y) ++ (r ++ s) by simp]
  rw [show (8 : Nat) = (x ++ y).length by simp [hx, hy]]
  exact List.take_left
theorem encL_head (l : List Nd) : (encL l).take 8 = cell4 0xD00DFEED ++ cell4 (encL l).length := by
  rw [encL_length]
  unfold encL headB
  exact take8 (cell4_length _) (cell4_length _)
theorem enc_len_of {l m : List Nd} (h : treeOk l = true) (h' : treeOk m = true) (e : (encL l).take 8 = (encL m).take 8) : (encL l).length = (encL m).length := by
  rw [encL_head, encL_head] at e
  have e2 := List.append_cancel_left e
  have e3 := congrArg num4 e2
  rwa [num4_cell (enc_lt h), num4_cell (enc_lt h')] at e3
theorem enc_ge (l : List Nd) : 32 ≤ (encL l).length := by rw [encL_length]; omega
theorem decM_cut {l : List Nd} (h : treeOk l = true) {n : Nat} (hn : n < (encL l).length) : decM ((encL l).take n) = ([], 4) := by
  rcases decM_cases ((encL l).take n) with ⟨m, _, hm, he⟩ | hd
  · exfalso
    have hg := enc_ge m
    have hl : (encL m).length = n := by rw [← he, List.length_take]; omega
    have e8 : (encL l).take 8 = (encL m).take 8 := by
      rw [← he, List.take_take]; congr 1; omega
    have := enc_len_of h hm e8
    omega
  · exact hd
theorem decM_more {l : List Nd} (h : treeOk l = true) {more : List UInt8} (hn : more ≠ []) : decM (encL l ++ more) = ([], 4) := by
  rcases decM_cases (encL l ++ more) with ⟨m, _, hm, he⟩ | hd
  · exfalso
    have hg := enc_ge l
    have e8 : (encL l).take 8 = (encL m).take 8 := by
      rw [← he, List.take_append_of_le_length (by omega)]
    have h1 := enc_len_of h hm e8
    have h2 := congrArg List.length he
    rw [List.length_append] at h2
    exact hn (List.eq_nil_of_length_eq_zero (by omega))
  · exact hd
theorem enc_inj {l m : List Nd} (h : treeOk l = true) (h' : treeOk m = true) : encL l = encL m ↔ l = m := by
  refine ⟨fun e => ?_, fun e => by rw [e]⟩
  have h1 := dec_full h
  have h2 := dec_full h'
  rw [e, h2] at h1
  exact (Prod.mk.inj h1).1.symm
theorem up4_mod (n : Nat) : up4 n % 4 = 0 := by unfold up4; omega
theorem flat_mod (all : List Nm) : ∀ ps : List Pr, (ps.flatMap (propB all)).length % 4 = 0
  | [] => rfl
  | p :: ps => by
    have := flat_mod all ps
    have := up4_mod p.2.length
    simp only [List.flatMap_cons, List.length_append, propB, cell4_length, fil_length]
    omega
mutual
theorem stT_mod (all : List Nm) : ∀ τ : T, (stT all τ).length % 4 = 0
  | .mk nm ps ks => by
    have h1 := stK_mod all ks
    have h2 := flat_mod all ps
    have h3 := up4_mod (nm ++ [0]).length
    simp only [stT, nodeB, List.length_append, cell4_length, fil_length] at h3 ⊢
    omega
theorem stK_mod (all : List Nm) : ∀ ks : List T, (stK all ks).length % 4 = 0
  | [] => rfl
  | t :: ts => by
    have h1 := stT_mod all t
    have h2 := stK_mod all ts
    simp only [stK, List.length_append]
    omega
end
theorem struct_mod {l : List Nd} (h : treeOk l = true) : (structL l).length % 4 = 0 := by
  obtain ⟨τ, rfl, _⟩ := treeOk_parse h
  rw [structL_T h]
  have := stT_mod (namesN [] (flT τ (-1) 0)) τ
  rw [List.length_append, cell4_length]
  omega
end Go.Proofs.YtlkhajheecglgaaDoor

namespace Go.Proofs.YtlkhajheecglgaaDoor
open Go Wk Go.ChangeShapes

theorem cInt : Tryd.prog.cellsOf 3 = 1 := by kernel_rfl
theorem cStr : Tryd.prog.cellsOf 9 = 1 := by kernel_rfl
theorem cPrs : Tryd.prog.cellsOf 37 = 1 := by kernel_rfl
theorem cNds : Tryd.prog.cellsOf 22 = 1 := by kernel_rfl
theorem cPr : Tryd.prog.cellsOf 41 = 2 := by kernel_rfl
theorem cNd : Tryd.prog.cellsOf 39 = 3 := by kernel_rfl
theorem cTwo : Tryd.prog.cellsOf 53 = 4 := by kernel_rfl

theorem len2 {α : Type} {l : List α} (h : l.length = 2) : ∃ a b, l = [a, b] := by
  match l, h with
  | [a, b], _ => exact ⟨a, b, rfl⟩
theorem len3 {α : Type} {l : List α} (h : l.length = 3) : ∃ a b c, l = [a, b, c] := by
  match l, h with
  | [a, b, c], _ => exact ⟨a, b, c, rfl⟩
def datPr : Dat Pr := fun H x d => ∃ d0 d1, d = .agg [d0, d1] ∧ datStr H x.1 d0 ∧ datStr H x.2 d1
def datNd : Dat Nd := fun H x d => ∃ d0 d1 d2, d = .agg [d0, d1, d2] ∧ datInt .i64 H x.parent d0 ∧ datStr H x.name d1 ∧ datSl datPr H x.props d2
theorem opens_pr : Opens Tryd.prog 41 rPr datPr := by
  intro H enc w fuel cs d ps h
  obtain ⟨xs, n, rfl, hx, hl, hlen, hf⟩ := DataW.trod_struct Tryd.underlying41 h
  rw [cPr] at hl
  obtain ⟨c0, c1, rfl⟩ := len2 hl
  obtain ⟨y0, y1, rfl⟩ := len2 (show xs.length = 2 from hlen)
  have e0 : DataW.trod enc Tryd.prog w 0 (fun _ => true) true n 9 (([c0, c1].drop 0).take (Tryd.prog.cellsOf 9)) = some y0 := hf 0 _ rfl
  rw [cStr] at e0
  have e1 : DataW.trod enc Tryd.prog w 0 (fun _ => true) true n 9 (([c0, c1].drop 1).take (Tryd.prog.cellsOf 9)) = some y1 := hf 1 _ rfl
  rw [cStr] at e1
  cases hx
  obtain ⟨s0, r0, q0⟩ := opens_str Tryd.underlying9 H enc w n _ _ _ e0
  obtain ⟨s1, r1, q1⟩ := opens_str Tryd.underlying9 H enc w n _ _ _ e1
  have r0' : [c0] = [vs s0] := r0 (fun _ => True) (fun _ _ => trivial)
  have r1' : [c1] = [vs s1] := r1 (fun _ => True) (fun _ _ => trivial)
  cases r0'
  cases r1'
  exact ⟨(s0, s1), fun _ _ => rfl, _, _, rfl, q0, q1⟩
theorem opens_prs : Opens Tryd.prog 37 (rSl rPr 2) (datSl datPr) := opens_slice Tryd.underlying37 cPr (by decide) opens_pr
theorem opens_nd : Opens Tryd.prog 39 rNd datNd := by
  intro H enc w fuel cs d ps h
  obtain ⟨xs, n, rfl, hx, hl, hlen, hf⟩ := DataW.trod_struct Tryd.underlying39 h
  rw [cNd] at hl
  obtain ⟨c0, c1, c2, rfl⟩ := len3 hl
  obtain ⟨y0, y1, y2, rfl⟩ := len3 (show xs.length = 3 from hlen)
  have e0 : DataW.trod enc Tryd.prog w 0 (fun _ => true) true n 3 (([c0, c1, c2].drop 0).take (Tryd.prog.cellsOf 3)) = some y0 := hf 0 _ rfl
  rw [cInt] at e0
  have e1 : DataW.trod enc Tryd.prog w 0 (fun _ => true) true n 9 (([c0, c1, c2].drop 1).take (Tryd.prog.cellsOf 9)) = some y1 := hf 1 _ rfl
  rw [cStr] at e1
  have e2 : DataW.trod enc Tryd.prog w 0 (fun _ => true) true n 37 (([c0, c1, c2].drop 2).take (Tryd.prog.cellsOf 37)) = some y2 := hf 2 _ rfl
  rw [cPrs] at e2
  cases hx
  obtain ⟨s0, r0, q0⟩ := opens_int Tryd.underlying3 H enc w n _ _ _ e0
  obtain ⟨s1, r1, q1⟩ := opens_str Tryd.underlying9 H enc w n _ _ _ e1
  obtain ⟨s2, r2, q2⟩ := opens_prs H enc w n _ _ _ e2
  have r0' : [c0] = [vi s0] := r0 (fun _ => True) (fun _ _ => trivial)
  have r1' : [c1] = [vs s1] := r1 (fun _ => True) (fun _ _ => trivial)
  cases r0'
  cases r1'
  refine ⟨⟨s0, s1, s2⟩, fun Pb hP => ?_, _, _, _, rfl, q0, q1, q2⟩
  obtain ⟨v, hv, hr⟩ := r2 Pb fun p hp => hP p (by simp; exact .inr (.inr hp))
  have hv' : [c2] = [v] := hv
  cases hv'
  exact ⟨c2, rfl, hr⟩
theorem opens_nds : Opens Tryd.prog 22 (rSl rNd 3) (datSl datNd) := opens_slice Tryd.underlying22 cNd (by decide) opens_nd

theorem len4 {α : Type} {l : List α} (h : l.length = 4) : ∃ a b c d, l = [a, b, c, d] := by
  match l, h with
  | [a, b, c, d], _ => exact ⟨a, b, c, d, rfl⟩
structure Tw where
  one : List Nd
  other : List Nd
  cut : Int
  more : List UInt8
def datTw : Dat Tw := fun H x d => ∃ d0 d1 d2 d3, d = .agg [d0, d1, d2, d3] ∧ datSl datNd H x.one d0 ∧ datSl datNd H x.other d1 ∧ datInt .i64 H x.cut d2 ∧ datStr H x.more d3
def rTw : Rel Tw := fun Pb w x cs => ∃ v0 v1, cs = [v0, v1, vi x.cut, vs x.more] ∧ RdS rNd 3 Pb w v0 x.one ∧ RdS rNd 3 Pb w v1 x.other
theorem opens_tw : Opens Tryd.prog 53 rTw datTw := by
  intro H enc w fuel cs d ps h
  obtain ⟨xs, n, rfl, hx, hl, hlen, hf⟩ := DataW.trod_struct Tryd.underlying53 h
  rw [cTwo] at hl
  obtain ⟨c0, c1, c2, c3, rfl⟩ := len4 hl
  obtain ⟨y0, y1, y2, y3, rfl⟩ := len4 (show xs.length = 4 from hlen)
  have e0 : DataW.trod enc Tryd.prog w 0 (fun _ => true) true n 22 (([c0, c1, c2, c3].drop 0).take (Tryd.prog.cellsOf 22)) = some y0 := hf 0 _ rfl
  rw [cNds] at e0
  have e1 : DataW.trod enc Tryd.prog w 0 (fun _ => true) true n 22 (([c0, c1, c2, c3].drop 1).take (Tryd.prog.cellsOf 22)) = some y1 := hf 1 _ rfl
  rw [cNds] at e1
  have e2 : DataW.trod enc Tryd.prog w 0 (fun _ => true) true n 3 (([c0, c1, c2, c3].drop 2).take (Tryd.prog.cellsOf 3)) = some y2 := hf 2 _ rfl
  rw [cInt] at e2
  have e3 : DataW.trod enc Tryd.prog w 0 (fun _ => true) true n 9 (([c0, c1, c2, c3].drop 3).take (Tryd.prog.cellsOf 9)) = some y3 := hf 3 _ rfl
  rw [cStr] at e3
  cases hx
  obtain ⟨s0, r0, q0⟩ := opens_nds H enc w n _ _ _ e0
  obtain ⟨s1, r1, q1⟩ := opens_nds H enc w n _ _ _ e1
  obtain ⟨s2, r2, q2⟩ := opens_int Tryd.underlying3 H enc w n _ _ _ e2
  obtain ⟨s3, r3, q3⟩ := opens_str Tryd.underlying9 H enc w n _ _ _ e3
  have r2' : [c2] = [vi s2] := r2 (fun _ => True) (fun _ _ => trivial)
  have r3' : [c3] = [vs s3] := r3 (fun _ => True) (fun _ _ => trivial)
  cases r2'
  cases r3'
  refine ⟨⟨s0, s1, s2, s3⟩, fun Pb hP => ?_, _, _, _, _, rfl, q0, q1, q2, q3⟩
  obtain ⟨v0, hv0, hr0⟩ := r0 Pb fun p hp => hP p (by simp; exact .inl hp)
  obtain ⟨v1, hv1, hr1⟩ := r1 Pb fun p hp => hP p (by simp; exact .inr (.inl hp))
  have hv0' : [c0] = [v0] := hv0
  have hv1' : [c1] = [v1] := hv1
  cases hv0'
  cases hv1'
  exact ⟨c0, c1, rfl, hr0, hr1⟩
/-! Sizes. -/
def Wok {H : Type} (t : TypeId) (d : DataW H) : Prop := ∀ n ∈ d.weights Tryd.prog t, n ≤ reachBytes
theorem wAll_mem {H : Type} {P : Program} {e : TypeId} : ∀ {ds : List (DataW H)} {i : Nat} {d : DataW H}, ds[i]? = some d → ∀ n ∈ d.weights P e, n ∈ DataW.weightsAll P e ds
  | d0 :: ds, 0, d, h, n, hn => by
    simp only [List.getElem?_cons_zero, Option.some.injEq] at h
    subst h
    simp only [DataW.weightsAll, List.mem_append]
    exact .inl hn
  | d0 :: ds, i + 1, d, h, n, hn => by
    simp only [List.getElem?_cons_succ] at h
    simp only [DataW.weightsAll, List.mem_append]
    exact .inr (wAll_mem h n hn)
  | [], _, _, h, _, _ => by simp at h
theorem wok_str {H : Type} {t : TypeId} {x : List UInt8} {d : DataW H} (h : datStr H x d) (hw : Wok t d) : x.length ≤ reachBytes := by
  obtain ⟨rfl, _⟩ := h
  exact hw _ (by simp [DataW.weights])
theorem wok_sl {H : Type} {α : Type} {D : Dat α} {t e : TypeId} {xs : List α} {d : DataW H} (ht : Tryd.prog.underlying t = some (.slice e)) (h : datSl D H xs d) (hw : Wok t d) :
    xs.length * Tryd.prog.bytesOf e ≤ reachBytes ∧ ∀ x ∈ xs, ∃ y, D H x y ∧ Wok e y := by
  rcases h with ⟨rfl, rfl⟩ | ⟨es, sp, rfl, hl, hd⟩
  · exact ⟨by simp, fun x hx => by simp at hx⟩
  · have hd' : ∀ n, n = (es.length + sp.length) * Tryd.prog.bytesOf e ∨ n ∈ DataW.weightsAll Tryd.prog e es → n ≤ reachBytes := fun n hn => hw n (by
      simp only [DataW.weights, ht, List.mem_cons, List.mem_append]
      rcases hn with h | h
      · exact .inl h
      · exact .inr (.inl h))
    refine ⟨?_, fun x hx => ?_⟩
    · have h1 := hd' _ (.inl rfl)
      have h2 : xs.length * Tryd.prog.bytesOf e ≤ (es.length + sp.length) * Tryd.prog.bytesOf e := Nat.mul_le_mul_right _ (by omega)
      exact Nat.le_trans h2 h1
    · obtain ⟨i, hi⟩ := List.mem_iff_getElem?.1 hx
      obtain ⟨y, hy, hD⟩ := hd i x hi
      exact ⟨y, hD, fun n hn => hd' n (.inr (wAll_mem hy n hn))⟩
theorem wok_pr {H : Type} {x : Pr} {d : DataW H} (h : datPr H x d) (hw : Wok 41 d) : x.1.length ≤ reachBytes ∧ x.2.length ≤ reachBytes := by
  obtain ⟨d0, d1, rfl, h0, h1⟩ := h
  have e : (DataW.agg [d0, d1]).weights Tryd.prog 41 = DataW.weightsEach Tryd.prog [9, 9] [d0, d1] := by
    simp only [DataW.weights, Tryd.underlying41]
    rfl
  refine ⟨wok_str (t := 9) h0 fun n hn => hw n ?_, wok_str (t := 9) h1 fun n hn => hw n ?_⟩
  · rw [e]; exact DataW.weights_mem_each (j := 0) rfl rfl n hn
  · rw [e]; exact DataW.weights_mem_each (j := 1) rfl rfl n hn
theorem bytesPr : Tryd.prog.bytesOf 41 = 32 := by kernel_rfl
theorem bytesNd : Tryd.prog.bytesOf 39 = 48 := by kernel_rfl
theorem wok_nd {H : Type} {x : Nd} {d : DataW H} (h : datNd H x d) (hw : Wok 39 d) :
    x.name.length ≤ reachBytes ∧ x.props.length * 32 ≤ reachBytes ∧ ∀ p ∈ x.props, p.1.length ≤ reachBytes ∧ p.2.length ≤ reachBytes := by
  obtain ⟨d0, d1, d2, rfl, h0, h1, h2⟩ := h
  have e : (DataW.agg [d0, d1, d2]).weights Tryd.prog 39 = DataW.weightsEach Tryd.prog [3, 9, 37] [d0, d1, d2] := by
    simp only [DataW.weights, Tryd.underlying39]
    rfl
  have h3 := wok_sl (t := 37) Tryd.underlying37 h2 fun n hn => hw n (by rw [e]; exact DataW.weights_mem_each (j := 2) rfl rfl n hn)
  rw [bytesPr] at h3
  refine ⟨wok_str (t := 9) h1 fun n hn => hw n ?_, h3.1, fun p hp => ?_⟩
  · rw [e]; exact DataW.weights_mem_each (j := 1) rfl rfl n hn
  · obtain ⟨y, hy, hwy⟩ := h3.2 p hp
    exact wok_pr hy hwy
theorem sz_nds {H : Type} {t : List Nd} {d : DataW H} (h : datSl datNd H t d) (hw : Wok 22 d) : Sz t := by
  have h1 := wok_sl (t := 22) Tryd.underlying22 h hw
  rw [bytesNd] at h1
  have h2 : ∀ x ∈ t, x.name.length ≤ reachBytes ∧ x.props.length * 32 ≤ reachBytes ∧ ∀ p ∈ x.props, p.1.length ≤ reachBytes ∧ p.2.length ≤ reachBytes := fun x hx => by
    obtain ⟨y, hy, hwy⟩ := h1.2 x hx
    exact wok_nd hy hwy
  exact ⟨h1.1, fun x hx => (h2 x hx).2.1, fun x hx => (h2 x hx).1, fun x hx => (h2 x hx).2.2⟩
theorem sz_tw {H : Type} {x : Tw} {d : DataW H} (h : datTw H x d) (hw : Wok 53 d) : Sz x.one ∧ Sz x.other ∧ x.more.length ≤ reachBytes := by
  obtain ⟨d0, d1, d2, d3, rfl, h0, h1, h2, h3⟩ := h
  have e : (DataW.agg [d0, d1, d2, d3]).weights Tryd.prog 53 = DataW.weightsEach Tryd.prog [22, 22, 3, 9] [d0, d1, d2, d3] := by
    simp only [DataW.weights, Tryd.underlying53]
    rfl
  refine ⟨sz_nds h0 fun n hn => hw n ?_, sz_nds h1 fun n hn => hw n ?_, wok_str (t := 9) h3 fun n hn => hw n ?_⟩
  · rw [e]; exact DataW.weights_mem_each (j := 0) rfl rfl n hn
  · rw [e]; exact DataW.weights_mem_each (j := 1) rfl rfl n hn
  · rw [e]; exact DataW.weights_mem_each (j := 3) rfl rfl n hn
/-- The weights of an argument. -/
theorem wok_arg {H : Type} {ts : List TypeId} {ds : List (DataW H)} (h : (DataW.weightsEach Tryd.prog ts ds).all (· ≤ reachBytes) = true) {j : Nat} {t : TypeId} {d : DataW H} (ht : ts[j]? = some t) (hd : ds[j]? = some d) : Wok t d := fun n hn => by
  have := List.all_eq_true.1 h _ (DataW.weights_mem_each ht hd n hn)
  simpa using this
end Go.Proofs.YtlkhajheecglgaaDoor

namespace Go.Proofs.YtlkhajheecglgaaDoor
open Go Wk
open Go.RowKit (Below)
attribute [local irreducible] Go.Calls

section
variable {P : Program} {n : Nat} {ds : List Deferred} {Q : Po} {F : Fr} {w : World} {ops rest : List Oper} {d : Nat} {ty t t' : TypeId} {pos : String} {aft : Array Edge}
theorem Wk.Wl.bneq {x y : Operand} {a b : Bool} [ht : Und P t .bool] (hx : ev n F x = .bool a) (hy : ev n F y = .bool b) (c : Wl P n ds Q ops rest (upd F d (.bool !(a == b))) w) : Wl P n ds Q ops (⟨some d, .binOp .neq t x y t', ty, pos, aft, none⟩ :: rest) F w := by
  refine Wl.val ?_ c
  have h : (Op.equalIn 10000 t (.bool a) (.bool b)).run P w = .ok (a == b) w := run_equalIn_bool' (P := P) w 9999 t a b ht.h
  have hb : (binOp .neq t (.bool a) (.bool b)).run P w = .ok (.bool !(a == b)) w := by
    simp only [binOp]
    simp [Op.equal, Op.maxDepth, h]
  simp only [execOp, hx, hy, Sem.run_bind, run_eqGuard_bool, Result.andThen_ok, hb, Sem.run_pure]
end
theorem Sz.txok {t : List Nd} (h : Sz t) : ∀ x ∈ t, TxOk x.props := fun x hx p hp => by
  have := (h.tx x hx p hp).1
  simp only [maxLen]; omega
theorem lookM_some {s : List UInt8} {l : List Nd} {hd : List Nat} (h : readM s = some (l, hd)) : lookM s = (hd, 0) := by unfold lookM; rw [h]
theorem look_full {l : List Nd} (h : treeOk l = true) : lookM (encL l) = (headL l, 0) := lookM_some (readM_full h)
set_option maxRecDepth 4000 in
set_option maxHeartbeats 4000000 in
theorem back_law {Pt : Nat → Prop} {w : World} {x : Tw} {v0 v1 : Value} (h0 : RdS rNd 3 Pt w v0 x.one) (h1 : RdS rNd 3 Pt w v1 x.other) (z0 : Sz x.one) (z1 : Sz x.other) (zm : x.more.length ≤ 140737488351232) :
    Calls Tryd.prog 6 #[.agg #[v0, v1, vi x.cut, vs x.more]] w (Ret fun r w' => r = .bool true ∧ New w w') := by
  obtain ⟨a0, c0, rfl, ha0, hc0⟩ := h0.form
  obtain ⟨a1, c1, rfl, ha1, hc1⟩ := h1.form
  obtain ⟨l, m, cut, more⟩ := x
  dsimp only at *
  refine calls_of_Wc Tryd.func6 rfl Tryd.ntmps6 rfl ?_
  (repeat' (first | refine Wc.seq ?_ | refine Wc.region ?_))
  refine Wl.box rfl fun w1 b1 n1 s1 => ?_
  replace b1 : Bk w1 w.heap.size 53 [.slice a0 l.length c0, .slice a1 m.length c1, vi cut, vs more] := b1
  (repeat' (first | refine Wl.assignE (by conv => { lhs; whnf }) ?_ | refine Wl.nil ?_ | refine Qseq.normal ?_ | refine Wc.seq ?_ | refine Wc.region ?_ | refine Wl.fieldAddr rfl rfl ?_))
  refine Wl.load1 rfl (b1.cell (o := 0) rfl) ?_
  (repeat' (first | refine Wl.assignE (by conv => { lhs; whnf }) ?_ | refine Wl.nil ?_ | refine Qseq.normal ?_ | refine Wc.seq ?_ | refine Wc.region ?_ | refine Wl.fieldAddr rfl rfl ?_))
  refine Wl.load1 rfl (b1.cell (o := 1) rfl) ?_
  (repeat' (first | refine Wl.moveE (by conv => { lhs; whnf }) ?_ | refine Wl.assignE (by conv => { lhs; whnf }) ?_ | refine Wl.nil ?_ | refine Qseq.normal ?_ | refine Wc.seq ?_ | refine Wc.region ?_))
  refine Wl.call (lent_spec (h0.keep stableNd n1.keep) z0) rfl ?_
  rintro _ w2 ⟨lab2, a2, cap2, pv2, rfl, t2, n2⟩
  have n02 := New.trans n1 n2
  refine Wl.call (Encode_spec t2.own.rd z0.txok) rfl ?_
  rintro _ w3 ⟨rfl, n3⟩
  have n03 := New.trans n02 n3
  (repeat' (first | refine Wl.moveE (by conv => { lhs; whnf }) ?_ | refine Wl.assignE (by conv => { lhs; whnf }) ?_ | refine Wl.nil ?_ | refine Wl.extract rfl rfl ?_ | refine Qseq.normal ?_ | refine Wc.seq ?_ | refine Wc.region ?_))
  refine Wl.call (lent_spec (h1.keep stableNd n03.keep) z1) rfl ?_
  rintro _ w4 ⟨lab4, a4, cap4, pv4, rfl, t4, n4⟩
  have n04 := New.trans n03 n4
  refine Wl.call (Encode_spec t4.own.rd z1.txok) rfl ?_
  rintro _ w5 ⟨rfl, n5⟩
  have n05 := New.trans n04 n5
  cases hok : treeOk l with
  | false =>
    rw [if_neg (by simp), if_neg (by simp)]
    (repeat' (first | refine Wl.moveE (by conv => { lhs; whnf }) ?_ | refine Wl.assignE (by conv => { lhs; whnf }) ?_ | refine Wl.nil ?_ | refine Wl.extract rfl rfl ?_ | refine Wl.guardY rfl rfl ?_ | refine Qseq.normal ?_ | refine Wc.seq ?_ | refine Wc.region ?_ | refine Wc.condT rfl ?_ | (refine Wl.neq rfl rfl (fun _ => ?_) (fun _ => ?_) <;> (first | (exfalso; omega) | skip)) | (refine Wl.seql rfl rfl (fun _ => ?_) (fun _ => ?_) <;> (first | (exfalso; contradiction) | skip))))
    refine Wl.call awake_spec rfl ?_
    rintro _ w6 ⟨rfl, n6⟩
    (repeat' (first | refine Wl.assignE (by conv => { lhs; whnf }) ?_ | refine Wl.nil ?_ | refine Wl.pickTE rfl (by conv => { lhs; whnf }) ?_ | refine Qseq.normal ?_ | refine Wc.ret ?_ | refine Qseq.ret ?_))
    exact Qfn.ret1 rfl rfl ⟨_, rfl, rfl, New.trans n05 n6⟩
  | true =>
  rw [if_pos rfl, if_pos rfl]
  obtain ⟨B, fv, hB, hf, hBf⟩ : ∃ (B : List UInt8) (fv : Int), (if treeOk m = true then encL m else []) = B ∧ (if treeOk m = true then (0 : Int) else 40) = fv ∧ (fv = 40 ∨ (fv = 0 ∧ B = encL m ∧ treeOk m = true)) := by
    cases hm : treeOk m with
    | false => exact ⟨_, _, rfl, rfl, .inl rfl⟩
    | true => exact ⟨_, _, rfl, rfl, .inr ⟨rfl, rfl, rfl⟩⟩
  rw [hB, hf]
  clear hB hf
  have hA1 := encL_length l
  have hA2 := enc_lt hok
  have hA3 := dec_full hok
  have hA4 : lookM (encL l) = ([(encL l).length, (structL l).length, (stringsL l).length, l.length], 0) := look_full hok
  have hA5 := struct_mod hok
  have hA6 : ∀ n, n < (encL l).length → decM ((encL l).take n) = ([], 4) := fun n hn => decM_cut hok hn
  have hA7 : more ≠ [] → decM (encL l ++ more) = ([], 4) := fun hm => decM_more hok hm
  have hA8 : treeOk m = true → (encL l = encL m ↔ l = m) := fun hm => enc_inj hok hm
  generalize encL l = A at *
  generalize (structL l).length = sn at *
  generalize (stringsL l).length = tn at *
  (repeat' (first | refine Wl.moveE (by conv => { lhs; whnf }) ?_ | refine Wl.assignE (by conv => { lhs; whnf }) ?_ | refine Wl.nil ?_ | refine Wl.extract rfl rfl ?_ | refine Qseq.normal ?_ | refine Wc.seq ?_ | refine Wc.region ?_ | refine Wc.skip ?_ | refine Wc.condF rfl ?_ | (refine Wl.neq rfl rfl (fun _ => ?_) (fun _ => ?_) <;> (first | (exfalso; omega) | skip))))
  refine Wl.call (Decode_spec (s := A) (by omega)) rfl ?_
  rintro _ w6 ⟨nv, lab6, pv6, rfl, t6, n6⟩
  have n06 := New.trans n05 n6
  rw [hA3] at t6 ⊢
  have r6 := t6.rd
  obtain ⟨na, nc, rfl, hna, hnc⟩ := r6.form
  (repeat' (first | refine Wl.moveE (by conv => { lhs; whnf }) ?_ | refine Wl.assignE (by conv => { lhs; whnf }) ?_ | refine Wl.nil ?_ | refine Wl.extract rfl rfl ?_ | refine Qseq.normal ?_ | refine Wc.seq ?_ | refine Wc.region ?_))
  refine Wl.call (Look_spec (s := A) (by omega)) rfl ?_
  rintro _ w7 ⟨rfl, n7⟩
  have n07 := New.trans n06 n7
  rw [hA4]
  (repeat' (first | refine Wl.moveE (by conv => { lhs; whnf }) ?_ | refine Wl.extract rfl rfl ?_))
  refine Wl.alloc fun w8 b8 n8 s8 => ?_
  skip
  refine Wl.storeB (new := [vi A.length, vi sn, vi tn, vi l.length]) b8 rfl rfl rfl rfl (show (4 : Nat) ≤ 4 from Nat.le_refl 4) (by intro c hc; simp at hc; rcases hc with rfl | rfl | rfl | rfl <;> rfl) fun w9 b9 c9 s9 => ?_
  replace b9 : Bk w9 w7.heap.size 44 [vi A.length, vi sn, vi tn, vi l.length] := b9
  have n79 : New w7 w9 := Chg.trans n8 c9 fun k hk e => by omega
  have n09 := New.trans n07 n79
  clear b8 c9
  (repeat' (first | refine Wl.moveE (by conv => { lhs; whnf }) ?_ | refine Wl.assignE (by conv => { lhs; whnf }) ?_ | refine Wl.nil ?_ | refine Wl.guardY rfl rfl ?_ | refine Wl.pickFE rfl (by conv => { lhs; whnf }) ?_ | refine Qseq.normal ?_ | refine Wc.seq ?_ | refine Wc.region ?_ | (refine Wl.neq rfl rfl (fun _ => ?_) (fun _ => ?_) <;> (first | (exfalso; omega) | skip))))
  refine Wl.call (alike_spec (r6.keep stableNd (New.trans n7 n79).keep) (h0.keep stableNd n09.keep)) rfl ?_
  rintro _ w10 ⟨q, rfl, hq, n10⟩
  obtain rfl : q = true := hq.2 rfl
  have n010 := New.trans n09 n10
  have b10 := b9.keep n10.keep (Pb := fun _ => True) trivial
  have b110 := b1.keep (New.trans (New.trans (New.trans (New.trans (New.trans (New.trans (New.trans n2 n3) n4) n5) n6) n7) n79) n10).keep (Pb := fun _ => True) trivial
  clear b9
  (repeat' (first | refine Wl.moveE (by conv => { lhs; whnf }) ?_ | refine Wl.guardY rfl rfl ?_ | refine Wl.pickFE rfl (by conv => { lhs; whnf }) ?_ | refine Wl.notB rfl ?_ | refine Wl.fieldAddr rfl rfl ?_))
  refine Wl.load1 rfl (b10.cell (o := 0) rfl) ?_
  (repeat' (first | refine Wl.moveE (by conv => { lhs; whnf }) ?_ | refine Wl.guardY rfl rfl ?_ | refine Wl.pickFE rfl (by conv => { lhs; whnf }) ?_ | refine Wl.lenStr rfl ?_ | refine Wl.fieldAddr rfl rfl ?_ | (refine Wl.neq rfl rfl (fun _ => ?_) (fun _ => ?_) <;> (first | (exfalso; omega) | skip))))
  refine Wl.load1 rfl (b10.cell (o := 0) rfl) ?_
  (repeat' (first | refine Wl.guardY rfl rfl ?_ | refine Wl.fieldAddr rfl rfl ?_))
  refine Wl.load1 rfl (b10.cell (o := 1) rfl) ?_
  (repeat' (first | refine Wl.guardY rfl rfl ?_ | refine Wl.fieldAddr rfl rfl ?_ | refine Wl.add rfl rfl (by omega) (by omega) ?_))
  refine Wl.load1 rfl (b10.cell (o := 2) rfl) ?_
  (repeat' (first | refine Wl.moveE (by conv => { lhs; whnf }) ?_ | refine Wl.guardY rfl rfl ?_ | refine Wl.pickFE rfl (by conv => { lhs; whnf }) ?_ | refine Wl.fieldAddr rfl rfl ?_ | refine Wl.add rfl rfl (by omega) (by omega) ?_ | (refine Wl.neq rfl rfl (fun _ => ?_) (fun _ => ?_) <;> (first | (exfalso; omega) | skip))))
  refine Wl.load1 rfl (b10.cell (o := 3) rfl) ?_
  (repeat' (first | refine Wl.moveE (by conv => { lhs; whnf }) ?_ | refine Wl.guardY rfl rfl ?_ | refine Wl.pickFE rfl (by conv => { lhs; whnf }) ?_ | refine Wl.lenS rfl ?_ | refine Wl.fieldAddr rfl rfl ?_ | (refine Wl.neq rfl rfl (fun _ => ?_) (fun _ => ?_) <;> (first | (exfalso; omega) | skip))))
  refine Wl.load1 rfl (b10.cell (o := 1) rfl) ?_
  (repeat' (refine Wl.guardY rfl rfl ?_))
  refine Wl.remW rfl rfl (by omega) ?_
  rw [show (sn : Int).tmod 4 = 0 by show ((sn % 4 : Nat) : Int) = 0; omega]
  clear b10
  (repeat' (first | refine Wl.moveE (by conv => { lhs; whnf }) ?_ | refine Wl.nil ?_ | refine Wl.guardY rfl rfl ?_ | refine Wl.guardN rfl rfl ?_ | refine Wl.pickFE rfl (by conv => { lhs; whnf }) ?_ | refine Qseq.normal ?_ | refine Wc.seq ?_ | refine Wc.region ?_ | refine Wc.skip ?_ | refine Wc.condF rfl ?_ | refine Wl.fieldAddr rfl rfl ?_ | refine Wl.eql rfl rfl (fun _ => ?_) (fun _ => ?_) | (refine Wl.neq rfl rfl (fun _ => ?_) (fun _ => ?_) <;> (first | (exfalso; omega) | skip)) | refine Wl.seql rfl rfl (fun _ => ?_) (fun _ => ?_)))
  all_goals first
    | (rcases hBf with hBf | ⟨_, hBe, hmo⟩
       · omega
       have hAB := hA8 hmo
       rw [← hBe] at hAB
       refine Wl.call (alike_spec (h0.keep stableNd n010.keep) (h1.keep stableNd n010.keep)) rfl ?_
       rintro _ w11 ⟨q, rfl, hq2, n11⟩
       obtain rfl : q = true := hq2.2 (hAB.1 (by assumption))
       (try refine Wl.guardY rfl rfl ?_)
       refine Wl.bneq rfl rfl ?_
       rw [show (!(true == true)) = false from rfl]
       have n011 := New.trans n010 n11
       have b11 := b110.keep n11.keep (Pb := fun _ => True) trivial
       clear b110 hAB hA8 hq2 hBe hmo
       (repeat' (first | refine Wl.nil ?_ | refine Wl.pickTE rfl (by conv => { lhs; whnf }) ?_ | refine Qseq.normal ?_ | refine Wc.seq ?_ | refine Wc.region ?_ | refine Wc.skip ?_ | refine Wc.condF rfl ?_ | refine Wl.fieldAddr rfl rfl ?_)))
    | (rcases hBf with hBf | ⟨_, hBe, hmo⟩
       · omega
       have hAB := hA8 hmo
       rw [← hBe] at hAB
       refine Wl.call (alike_spec (h0.keep stableNd n010.keep) (h1.keep stableNd n010.keep)) rfl ?_
       rintro _ w11 ⟨q, rfl, hq2, n11⟩
       have hqf : q = false := by
         cases q with
         | false => rfl
         | true => exact absurd (hAB.2 (hq2.1 rfl)) (by assumption)
       subst hqf
       (try refine Wl.guardY rfl rfl ?_)
       refine Wl.bneq rfl rfl ?_
       rw [show (!(false == false)) = false from rfl]
       have n011 := New.trans n010 n11
       have b11 := b110.keep n11.keep (Pb := fun _ => True) trivial
       clear b110 hAB hA8 hq2 hBe hmo
       (repeat' (first | refine Wl.nil ?_ | refine Wl.pickTE rfl (by conv => { lhs; whnf }) ?_ | refine Qseq.normal ?_ | refine Wc.seq ?_ | refine Wc.region ?_ | refine Wc.skip ?_ | refine Wc.condF rfl ?_ | refine Wl.fieldAddr rfl rfl ?_)))
    | (have n011 := n010
       have b11 := b110
       clear b110 hA8)
  all_goals
    obtain ⟨n, hn, hnl, hm1, hm2⟩ := mod_range (a := cut) (L := A.length) (by omega)
    refine Wl.load1 rfl (b11.cell (o := 2) rfl) ?_
    (repeat' (first | refine Wl.moveE (by conv => { lhs; whnf }) ?_ | refine Wl.lenStr rfl ?_))
    refine Wl.remW rfl rfl (by omega) ?_
    (repeat' (first | refine Wl.moveE (by conv => { lhs; whnf }) ?_ | refine Wl.lenStr rfl ?_ | refine Wl.add rfl rfl (by omega) (by omega) ?_))
    refine Wl.remW rfl rfl (by omega) ?_
    rw [hn]
    (repeat' (first | refine Wl.moveE (by conv => { lhs; whnf }) ?_ | refine Wl.assignE (by conv => { lhs; whnf }) ?_ | refine Wl.nil ?_ | refine Qseq.normal ?_ | refine Wc.seq ?_ | refine Wc.region ?_))
    refine Wl.strTo rfl rfl (by omega) (by omega) ?_
    rw [Int.toNat_natCast]
    refine Wl.call (Decode_spec (s := A.take n) (by rw [List.length_take]; omega)) rfl ?_
    rintro _ w12 ⟨nv12, lab12, pv12, rfl, t12, n12⟩
    rw [hA6 n hnl] at t12 ⊢
    obtain ⟨ea, ec, rfl, _, _⟩ := t12.rd.form
    have b12 := b11.keep n12.keep (Pb := fun _ => True) trivial
    (repeat' (first | refine Wl.moveE (by conv => { lhs; whnf }) ?_ | refine Wl.assignE (by conv => { lhs; whnf }) ?_ | refine Wl.nil ?_ | refine Wl.extract rfl rfl ?_ | refine Qseq.normal ?_ | refine Wc.seq ?_ | refine Wc.region ?_ | refine Wl.fieldAddr rfl rfl ?_))
    refine Wl.load1 rfl (b12.cell (o := 3) rfl) ?_
    refine Wl.sadd rfl rfl (by omega) ?_
    refine Wl.call (Decode_spec (s := A ++ more) (by rw [List.length_append]; omega)) rfl ?_
    rintro _ w13 ⟨nv13, lab13, pv13, rfl, t13, n13⟩
    have b13 := b12.keep n13.keep (Pb := fun _ => True) trivial
    have n013 := New.trans (New.trans n011 n12) n13
    obtain ⟨fa, fc, rfl, _, _⟩ := t13.rd.form
    clear t13 t12
    by_cases hmo : more = []
    · subst hmo
      rw [List.append_nil, hA3]
      (repeat' (first | refine Wl.moveE (by conv => { lhs; whnf }) ?_ | refine Wl.assignE (by conv => { lhs; whnf }) ?_ | refine Wl.nil ?_ | refine Wl.extract rfl rfl ?_ | refine Wl.guardY rfl rfl ?_ | refine Qseq.normal ?_ | refine Wc.seq ?_ | refine Wc.region ?_ | refine Wl.fieldAddr rfl rfl ?_ | (refine Wl.eql rfl rfl (fun _ => ?_) (fun _ => ?_) <;> (first | (exfalso; omega) | skip))))
      refine Wl.load1 rfl (b13.cell (o := 3) rfl) ?_
      (try refine Wl.guardY rfl rfl ?_)
      refine Wl.seqlSame (a := []) rfl rfl ?_
      (try refine Wl.guardY rfl rfl ?_)
      refine Wl.beql rfl rfl ?_
      rw [show (true == true) = true from rfl]
      (repeat' (first | refine Wl.moveE (by conv => { lhs; whnf }) ?_ | refine Wl.guardY rfl rfl ?_ | refine Wl.pickTE rfl (by conv => { lhs; whnf }) ?_))
      refine Wl.call awake_spec rfl ?_
      rintro _ w14 ⟨rfl, n14⟩
      (repeat' (first | refine Wl.assignE (by conv => { lhs; whnf }) ?_ | refine Wl.nil ?_ | refine Wl.pickTE rfl (by conv => { lhs; whnf }) ?_ | refine Qseq.normal ?_ | refine Wc.ret ?_))
      exact Qfn.ret1 rfl rfl ⟨_, rfl, rfl, New.trans n013 n14⟩
    · rw [hA7 hmo]
      (repeat' (first | refine Wl.moveE (by conv => { lhs; whnf }) ?_ | refine Wl.assignE (by conv => { lhs; whnf }) ?_ | refine Wl.nil ?_ | refine Wl.extract rfl rfl ?_ | refine Wl.guardY rfl rfl ?_ | refine Qseq.normal ?_ | refine Wc.seq ?_ | refine Wc.region ?_ | refine Wl.fieldAddr rfl rfl ?_ | (refine Wl.eql rfl rfl (fun _ => ?_) (fun _ => ?_) <;> (first | (exfalso; omega) | skip))))
      refine Wl.load1 rfl (b13.cell (o := 3) rfl) ?_
      (repeat' (first | refine Wl.guardY rfl rfl ?_ | (refine Wl.seql rfl rfl (fun _ => ?_) (fun _ => ?_) <;> (first | (exfalso; contradiction) | skip))))
      refine Wl.beql rfl rfl ?_
      rw [show (false == false) = true from rfl]
      (repeat' (first | refine Wl.moveE (by conv => { lhs; whnf }) ?_ | refine Wl.guardY rfl rfl ?_ | refine Wl.pickTE rfl (by conv => { lhs; whnf }) ?_))
      refine Wl.call awake_spec rfl ?_
      rintro _ w14 ⟨rfl, n14⟩
      (repeat' (first | refine Wl.assignE (by conv => { lhs; whnf }) ?_ | refine Wl.nil ?_ | refine Wl.pickTE rfl (by conv => { lhs; whnf }) ?_ | refine Qseq.normal ?_ | refine Wc.ret ?_))
      exact Qfn.ret1 rfl rfl ⟨_, rfl, rfl, New.trans n013 n14⟩
end Go.Proofs.YtlkhajheecglgaaDoor

namespace Go.Proofs.YtlkhajheecglgaaDoor
open Go Wk
open Go.RowKit (Below)
attribute [local irreducible] Go.Calls

structure GI (s : List UInt8) (l : List Nd) (o : Int) : Prop where
  par : ∀ (i : Nat) (x : Nd), l[i]? = some x → -1 ≤ x.parent ∧ x.parent < i
  o : -1 ≤ o ∧ o < l.length
  len : l.length ≤ 513
  cnt : ∀ x ∈ l, x.props.length ≤ 33
  nm : ∀ x ∈ l, x.name.length ≤ s.length
  tx : ∀ x ∈ l, ∀ p ∈ x.props, p.1.length ≤ s.length ∧ p.2.length ≤ s.length
section
variable {s : List UInt8} {l : List Nd} {o : Int}
theorem GI.sz (h : GI s l o) (hs : s.length ≤ 140737488351232) : Sz l := by
  have := h.len
  exact ⟨by omega, fun x hx => by have := h.cnt x hx; omega, fun x hx => by have := h.nm x hx; omega, fun x hx p hp => by have := h.tx x hx p hp; omega⟩
theorem GI.nil : GI s [] (-1) := ⟨fun i x h => by simp at h, by simp, by simp, fun x h => by simp at h, fun x h => by simp at h, fun x h => by simp at h⟩
theorem GI.snoc (h : GI s l o) (hl : l.length ≤ 512) {nm : List UInt8} (hn : nm.length ≤ s.length) : GI s (l ++ [⟨o, nm, []⟩]) l.length := by
  refine ⟨fun i x hx => ?_, by simp; omega, by simp; omega, fun x hx => ?_, fun x hx => ?_, fun x hx => ?_⟩
  · rw [List.getElem?_append] at hx
    split at hx
    · exact h.par i x hx
    · have hi := (List.getElem?_eq_some_iff.1 hx).1
      simp at hi
      obtain rfl : i = l.length := by omega
      simp at hx
      subst hx
      exact h.o
  all_goals
    rcases List.mem_append.1 hx with hx | hx
  · exact h.cnt x hx
  · rw [List.mem_singleton] at hx; subst hx; simp
  · exact h.nm x hx
  · rw [List.mem_singleton] at hx; subst hx; exact hn
  · exact h.tx x hx
  · rw [List.mem_singleton] at hx; subst hx; simp
theorem GI.set (h : GI s l o) {N : Nat} {x : Nd} (hx : l[N]? = some x) (hc : x.props.length ≤ 32) {p : Pr} (h1 : p.1.length ≤ s.length) (h2 : p.2.length ≤ s.length) : GI s (l.set N { x with props := x.props ++ [p] }) o := by
  have hxm := List.mem_of_getElem? hx
  refine ⟨fun i y hy => ?_, by rw [List.length_set]; exact h.o, by rw [List.length_set]; exact h.len, fun y hy => ?_, fun y hy => ?_, fun y hy => ?_⟩
  · rw [List.getElem?_set] at hy
    split at hy
    · rename_i e
      subst e
      split at hy
      · cases hy; exact h.par N x hx
      · cases hy
    · exact h.par i y hy
  all_goals
    rcases List.mem_or_eq_of_mem_set hy with hy | rfl
  · exact h.cnt y hy
  · simp; omega
  · exact h.nm y hy
  · exact h.nm x hxm
  · exact h.tx y hy
  · intro q hq
    rcases List.mem_append.1 hq with hq | hq
    · exact h.tx x hxm q hq
    · rw [List.mem_singleton] at hq; subst hq; exact ⟨h1, h2⟩
theorem GI.up (h : GI s l o) {N : Nat} {x : Nd} (hx : l[N]? = some x) : GI s l x.parent := by
  have := h.par N x hx
  have hN := (List.getElem?_eq_some_iff.1 hx).1
  exact ⟨h.par, ⟨this.1, by omega⟩, h.len, h.cnt, h.nm, h.tx⟩
theorem numberM_le (a : Nat) : numberM s a ≤ 99999999 := by unfold numberM; split <;> omega
theorem ended_le (a : Nat) : (endedM s a).length ≤ s.length - a := by
  unfold endedM
  have := (List.takeWhile_sublist (l := s.drop a) fun c => c != 0).length_le
  rwa [List.length_drop] at this
theorem openAt_no (h : o < 0) : openAt l o = none := if_pos h
theorem openAt_at {N : Nat} {x : Nd} (hx : l[N]? = some x) : openAt l (N : Int) = some x := by
  unfold openAt
  rw [if_neg (by omega), Int.toNat_natCast, hx]
variable {fr a f : Nat}
theorem guess_stop (h : ¬ (a + 4 ≤ s.length ∧ l.length ≤ 512)) : guessGo s fr f l o a = l := by
  cases f with
  | zero => rfl
  | succ f => rw [guessGo, if_neg h]
end
set_option maxRecDepth 8000 in
set_option maxHeartbeats 4000000 in
theorem guessR_spec {w : World} {s : List UInt8} (hs : s.length ≤ 140737488351232) :
    Calls Tryd.prog 35 #[vs s] w (Ret fun r w' => ∃ lab pvs, TrOwn w.heap.size lab w' r (guessM s) pvs ∧ Sz (guessM s) ∧ New w w') := by
  have kE : ∀ w (b : Nat) (bi : Int), bi = b → Calls Tryd.prog 52 #[vs s, vi bi] w (Ret fun r w' => r = vs (endedM s b) ∧ w = w') := by rintro w b _ rfl; exact endedR_spec (by omega)
  have kN : ∀ w (b : Nat) (bi : Int), bi = b → b ≤ 4611686018427387904 → Calls Tryd.prog 51 #[vs s, vi bi] w (Ret fun r w' => r = vi (numberM s b) ∧ w = w') := by rintro w b _ rfl hb; exact numberR_spec hb (by omega)
  have kU : ∀ w (b : Nat) (bi : Int), bi = b → b ≤ 4611686018427387904 → Calls Tryd.prog 53 #[vi bi] w (Ret fun r w' => r = vi (up4 b) ∧ w = w') := by rintro w b _ rfl hb; exact upR_spec hb
  have hup : ∀ k, up4 k ≤ k + 3 ∧ k ≤ up4 k := fun k => by unfold up4; omega
  have hnil : ∀ {w' : World}, New w w' → guessM s = [] → ∃ lab pvs, TrOwn w.heap.size lab w' (.slice none 0 0) (guessM s) pvs ∧ Sz (guessM s) ∧ New w w' := fun {w'} n e => by
    rw [e]; exact ⟨_, _, TrOwn.nil, GI.nil.sz hs, n⟩
  refine calls_of_Wc Tryd.func35 rfl Tryd.ntmps35 rfl ?_
  (repeat' (first | refine Wl.moveE (by conv => { lhs; whnf }) ?_ | refine Wl.assignE (by conv => { lhs; whnf }) ?_ | refine Wl.nil ?_ | refine Qseq.normal ?_ | refine Wc.seq ?_ | refine Wc.region ?_))
  refine Wl.call (kN _ 16 _ rfl (by omega)) rfl ?_
  rintro _ _ ⟨rfl, rfl⟩
  have hg0 : guessM s = guessGo s (numberM s 16) (s.length + 1) [] (-1) 32 := rfl
  have hfr := numberM_le (s := s) 16
  generalize numberM s 16 = fr at *
  (repeat' (first | refine Wl.assignE (by conv => { lhs; whnf }) ?_ | refine Wl.nil ?_ | refine Qseq.normal ?_ | refine Wc.seq ?_ | refine Wc.block ?_))
  refine Wc.loop (σ := Value × List Nd × Int × Nat × Nat × Lb × List Sl) (fun q => [(0, vs s), (3, q.1), (4, vi q.2.2.1), (5, vi q.2.2.2.1), (6, vi fr)])
    (fun q w' => GI s q.2.1 q.2.2.1 ∧ TrOwn w.heap.size q.2.2.2.2.2.1 w' q.1 q.2.1 q.2.2.2.2.2.2 ∧ New w w' ∧ guessM s = guessGo s fr q.2.2.2.2.1 q.2.1 q.2.2.1 q.2.2.2.1 ∧ s.length < q.2.2.2.2.1 + q.2.2.2.1 ∧ q.2.2.2.1 ≤ s.length + 200000000)
    (fun q => s.length + 200000001 - q.2.2.2.1) (.slice none 0 0, [], -1, 32, s.length + 1, fun _ => none, []) ⟨rfl, rfl, rfl, rfl, rfl, trivial⟩ ⟨GI.nil, TrOwn.nil, Chg.refl _ _, hg0, by dsimp only; omega, by dsimp only; omega⟩ ?_
  clear hg0
  rintro ⟨nv, l, o, a, f, lab, pvs⟩ G w1 ⟨hI, tr, n1, hg, hf, ha⟩
  dsimp only at hI tr n1 hg hf ha
  obtain ⟨na, nc, rfl, hna, hnc⟩ := tr.rd.form
  have hil := hI.len
  have hio := hI.o
  have sz1 := n1.size
  have hzl : (l.zip pvs).length = l.length := by simp [tr.len]
  simp only [upds]
  (repeat' (first | refine Wl.moveE (by conv => { lhs; whnf }) ?_ | refine Wl.assignE (by conv => { lhs; whnf }) ?_ | refine Wl.nil ?_ | refine Wl.guardY rfl rfl ?_ | refine Wl.guardN rfl rfl ?_ | refine Wl.pickTE rfl (by conv => { lhs; whnf }) ?_ | refine Wl.pickFE rfl (by conv => { lhs; whnf }) ?_ | refine Wl.lenS rfl ?_ | refine Wl.lenStr rfl ?_ | refine Qseq.normal ?_ | refine Wc.seq ?_ | refine Wc.region ?_ | refine Wc.block ?_ | refine Wc.skip ?_ | refine Wc.exit ?_ | refine Wc.ret ?_ | refine Qseq.exit ?_ | refine Qblk.hit ?_ | refine Qloop.exit ?_ | refine Wc.condT rfl ?_ | refine Wc.condF rfl ?_ | refine Wl.add rfl rfl (by omega) (by omega) ?_ | refine Wl.leq rfl rfl (fun _ => ?_) (fun _ => ?_)))
  · obtain ⟨f, rfl⟩ : ∃ g, f = g + 1 := ⟨f - 1, by omega⟩
    rw [guessGo, if_pos ⟨by omega, by omega⟩] at hg
    refine Wl.call (kN _ a _ rfl (by omega)) rfl ?_
    rintro _ _ ⟨rfl, rfl⟩
    generalize numberM s a = nk at *
    (repeat' (first | refine Wl.moveE (by conv => { lhs; whnf }) ?_ | refine Wl.assignE (by conv => { lhs; whnf }) ?_ | refine Wl.nil ?_ | refine Qseq.normal ?_ | refine Wc.seq ?_ | refine Wc.region ?_ | refine Wc.block ?_ | refine Wc.skip ?_ | refine Wc.ret ?_ | refine Qseq.ret ?_ | refine Qblk.ret ?_ | refine Qloop.ret ?_ | refine Wc.condT rfl ?_ | refine Wc.condF rfl ?_ | refine Wl.add rfl rfl (by omega) (by omega) ?_ | refine Wl.lss rfl rfl (fun _ => ?_) (fun _ => ?_) | refine Wl.eql rfl rfl (fun _ => ?_) (fun _ => ?_)))
    · rw [if_pos (by omega)] at hg
      refine Wl.call (kE _ (a + 4) _ (by omega)) rfl ?_
      rintro _ _ ⟨rfl, rfl⟩
      have hel := ended_le (s := s) (a + 4)
      generalize endedM s (a + 4) = nm at *
      have hu := hup (nm.length + 1)
      (repeat' (first | refine Wl.moveE (by conv => { lhs; whnf }) ?_ | refine Wl.assignE (by conv => { lhs; whnf }) ?_ | refine Wl.nil ?_ | refine Qseq.normal ?_ | refine Wc.seq ?_ | refine Wc.region ?_))
      refine Wl.buildF (ps := [(0, .tmp 33), (1, .tmp 34)]) (parts := [(0, vi o), (1, vs nm)]) rfl rfl (by simp [Value.cells]) ?_
      refine Wl.buildSlice1 (R := flat ndV) (y := (⟨o, nm, []⟩, (none, 0, 0))) (Pe := No) goodNdV rfl rfl rfl rfl (by omega) (by omega) fun vt w3 ot n3 s3 hobt => ?_
      refine Wl.appendAll goodNdV (tr.new n3).arr (ot.rd (mono_flat ndV)) (fun y cs hy => hy) rfl rfl (by omega) (by rw [hzl]; simp only [maxLen, List.length_singleton]; omega) (by rw [hzl]; simp only [List.length_singleton]; omega) fun nv4 w4 o4 c4 lie _ => ?_
      obtain ⟨lab4, tr4, _⟩ := tr.snoc sz1 (x := ⟨o, nm, []⟩) (pv := (none, 0, 0)) n3 OwnS.nil o4 c4
      have n4 : New w w4 := Chg.trans (New.trans n1 n3) c4 fun b hb e => by have h1 := (tr.arr.lt e).1; have := (tr.low b _ h1).1; omega
      obtain ⟨qa, qc, rfl, hq1, hq2⟩ := tr4.rd.form
      have hll : (l ++ [(⟨o, nm, []⟩ : Nd)]).length = l.length + 1 := by simp
      (repeat' (first | refine Wl.moveE (by conv => { lhs; whnf }) ?_ | refine Wl.assignE (by conv => { lhs; whnf }) ?_ | refine Wl.nil ?_ | refine Wl.lenS rfl ?_ | refine Wl.lenStr rfl ?_ | refine Qseq.normal ?_ | refine Wc.seq ?_ | refine Wc.region ?_ | refine Wl.add rfl rfl (by omega) (by omega) ?_ | refine Wl.sub rfl rfl (by omega) (by omega) ?_))
      refine Wl.call (kU _ (nm.length + 1) _ (by omega) (by omega)) rfl ?_
      rintro _ _ ⟨rfl, rfl⟩
      (repeat' (first | refine Wl.assignE (by conv => { lhs; whnf }) ?_ | refine Wl.nil ?_ | refine Qblk.normal ?_ | refine Wl.add rfl rfl (by omega) (by omega) ?_))
      refine Qloop.normal (_, l ++ [⟨o, nm, []⟩], (l.length : Int), a + 4 + up4 (nm.length + 1), f, lab4, pvs ++ [(none, 0, 0)]) ⟨rfl, rfl, ?_, ?_, rfl, trivial⟩ ⟨hI.snoc (by omega) (by omega), tr4, n4, hg, by dsimp only; omega, by dsimp only; omega⟩ (by dsimp only; omega)
      · show vi _ = vi _
        congr 1; dsimp only; omega
      · show vi _ = vi _
        congr 1
    · rw [if_neg (by omega), if_pos (by omega)] at hg
      refine Wl.call (kN _ (a + 4) _ (by omega) (by omega)) rfl ?_
      rintro _ _ ⟨rfl, rfl⟩
      have hn2 := numberM_le (s := s) (a + 4)
      generalize numberM s (a + 4) = n2_ at *
      have hu := hup n2_
      (repeat' (first | refine Wl.moveE (by conv => { lhs; whnf }) ?_ | refine Wl.assignE (by conv => { lhs; whnf }) ?_ | refine Wl.nil ?_ | refine Wl.lenStr rfl ?_ | refine Qseq.normal ?_ | refine Wc.seq ?_ | refine Wc.region ?_ | refine Wl.add rfl rfl (by omega) (by omega) ?_))
      refine Wl.minI rfl rfl ?_
      rw [show (if (s.length : Int) < (a : Int) + 12 + (n2_ : Int) then (s.length : Int) else (a : Int) + 12 + (n2_ : Int)) = ((min (a + 12 + n2_) s.length : Nat) : Int) by split <;> omega]
      generalize hem : min (a + 12 + n2_) s.length = em at *
      by_cases ho : o < 0
      · rw [openAt_no ho] at hg
        (repeat' (first | refine Wl.moveE (by conv => { lhs; whnf }) ?_ | refine Wl.assignE (by conv => { lhs; whnf }) ?_ | refine Wl.nil ?_ | refine Wl.guardN rfl rfl ?_ | refine Wl.pickTE rfl (by conv => { lhs; whnf }) ?_ | refine Qseq.normal ?_ | refine Wc.seq ?_ | refine Wc.region ?_ | refine Wc.ret ?_ | refine Qseq.ret ?_ | refine Qblk.ret ?_ | refine Qloop.ret ?_ | refine Wc.condT rfl ?_ | (refine Wl.lss rfl rfl (fun _ => ?_) (fun _ => ?_) <;> (first | (exfalso; omega) | skip))))
        exact Qfn.ret1 rfl rfl ⟨_, rfl, hnil n1 hg⟩
      obtain ⟨N, rfl⟩ := Int.eq_ofNat_of_zero_le (Int.not_lt.1 ho)
      obtain ⟨x, hx⟩ := get_lt l (k := N) (by omega)
      obtain ⟨pv, hpv⟩ := get_lt pvs (k := N) (by rw [tr.len]; omega)
      have hxc := hI.cnt x (List.mem_of_getElem? hx)
      rw [openAt_at hx] at hg
      dsimp only at hg
      (repeat' (first | refine Wl.moveE (by conv => { lhs; whnf }) ?_ | refine Wl.assignE (by conv => { lhs; whnf }) ?_ | refine Wl.nil ?_ | refine Wl.guardY rfl rfl ?_ | refine Wl.guardN rfl rfl ?_ | refine Wl.pickTE rfl (by conv => { lhs; whnf }) ?_ | refine Wl.pickFE rfl (by conv => { lhs; whnf }) ?_ | refine Qseq.normal ?_ | refine Wc.seq ?_ | refine Wc.region ?_ | refine Wc.ret ?_ | refine Qseq.ret ?_ | refine Qblk.ret ?_ | refine Qloop.ret ?_ | refine Wc.condT rfl ?_ | refine Wl.add rfl rfl (by omega) (by omega) ?_ | (refine Wl.lss rfl rfl (fun _ => ?_) (fun _ => ?_) <;> (first | (exfalso; omega) | skip))))
      · rw [if_pos (.inl (by omega))] at hg
        exact Qfn.ret1 rfl rfl ⟨_, rfl, hnil n1 hg⟩
      have ow := tr.pr N x pv hx hpv
      obtain ⟨gb, cap, hnv, hgl, hgs, hz, hcell⟩ := tr.cell hx hpv
      simp only [Value.slice.injEq] at hnv
      obtain ⟨rfl, _, rfl⟩ := hnv
      obtain ⟨qa, ql, qc⟩ := pv
      obtain ⟨ra, rc, re, _, _⟩ := ow.form
      simp only [slV, Value.slice.injEq] at re
      obtain ⟨rfl, rfl, rfl⟩ := re
      simp only [slV] at ow
      refine Wl.idxAddr (tr.arr.rd (mono_flat ndV)) rfl rfl (by omega) (by rw [Int.toNat_natCast]; exact hz) fun b o' cs hl hR hat => ?_
      obtain rfl : cs = ndV (x, _) := hR
      (repeat' (first | refine Wl.guardY rfl rfl ?_ | refine Wl.fieldAddr rfl rfl ?_))
      refine Wl.load1 (u := .slice qa x.props.length qc) rfl (hat.get 2 rfl) ?_
      clear hat
      (repeat' (first | refine Wl.assignE (by conv => { lhs; whnf }) ?_ | refine Wl.nil ?_ | refine Wl.guardY rfl rfl ?_ | refine Wl.pickFE rfl (by conv => { lhs; whnf }) ?_ | refine Wl.lenS rfl ?_ | refine Qseq.normal ?_ | refine Wc.seq ?_ | refine Wc.region ?_ | refine Wc.skip ?_ | refine Wc.ret ?_ | refine Qseq.ret ?_ | refine Qblk.ret ?_ | refine Qloop.ret ?_ | refine Wc.condT rfl ?_ | refine Wc.condF rfl ?_ | refine Wl.gtr rfl rfl (fun _ => ?_) (fun _ => ?_)))
      · rw [if_pos (.inr (by omega))] at hg
        exact Qfn.ret1 rfl rfl ⟨_, rfl, hnil n1 hg⟩
      rw [if_neg (by omega)] at hg
      have hpn : ∀ k, (Value.slice qa x.props.length qc).ownBlock = some k → lab k = some (N + 1) := fun k hk => (ow.lt hk).1
      have hkM : ∀ w', Chg (fun k => (Value.slice qa x.props.length qc).ownBlock = some k) w1 w' → Keep (fun b => lab b = some 0 ∨ No b) w1 w' := fun w' hw => hw.keep fun b hb e1 e2 => by
        rcases e1 with e1 | e1
        · rw [hpn b e2] at e1; cases e1
        · exact e1
      refine Wc.regionT rfl (by kernel_rfl) (Chg (fun k => (Value.slice qa x.props.length qc).ownBlock = some k) w1) (Chg.drew _ _) ?_
      intro w2 n2
      (repeat' (refine Wt.quiet rfl (Wq.moveE (by conv => { lhs; whnf }) (Wq.nil ?_))))
      refine Wt.quiet rfl (Wq.idxAddr (tr.arr.rd (mono_flat ndV)) hkM rfl rfl (by omega) (by rw [Int.toNat_natCast]; exact hz) fun b o' cs hl hR hat => Wq.nil ?_)
      obtain rfl : cs = ndV (x, _) := hR
      (repeat' (refine Wt.quiet rfl (Wq.fieldAddr rfl rfl (Wq.nil ?_))))
      refine Wt.quiet rfl (Wq.load1 (u := .slice qa x.props.length qc) rfl (fun w' hw => (hat w' hw).get 2 rfl) (Wq.nil ?_))
      clear hat
      (repeat' (first | refine Wt.quiet rfl (Wq.moveE (by conv => { lhs; whnf }) (Wq.nil ?_)) | refine Wt.quiet rfl (Wq.add rfl rfl (by omega) (by omega) (Wq.nil ?_))))
      refine Wt.chain rfl (Wl.call (kN _ (a + 8) _ (by omega) (by omega)) rfl ?_)
      rintro _ _ ⟨rfl, rfl⟩
      refine Wl.nil ⟨rfl, n2.any, ?_⟩
      have hn8 := numberM_le (s := s) (a + 8)
      generalize numberM s (a + 8) = n8 at *
      (repeat' (refine Wt.quiet rfl (Wq.add rfl rfl (by omega) (by omega) (Wq.nil ?_))))
      refine Wt.chain rfl (Wl.call (kE _ (fr + n8) _ (by omega)) rfl ?_)
      rintro _ _ ⟨rfl, rfl⟩
      refine Wl.nil ⟨rfl, n2.any, ?_⟩
      have hel := ended_le (s := s) (fr + n8)
      generalize endedM s (fr + n8) = e8 at *
      (repeat' (first | refine Wt.quiet rfl (Wq.moveE (by conv => { lhs; whnf }) (Wq.nil ?_)) | refine Wt.quiet rfl (Wq.add rfl rfl (by omega) (by omega) (Wq.nil ?_))))
      refine Wt.quiet rfl (Wq.strBoth rfl rfl rfl (by omega) (by omega) (by omega) (Wq.nil ?_))
      rw [show ((a : Int) + 12).toNat = a + 12 by omega, Int.toNat_natCast]
      have hvl : ((s.take em).drop (a + 12)).length ≤ s.length := by rw [List.length_drop, List.length_take]; omega
      generalize (s.take em).drop (a + 12) = vv at *
      refine Wt.chain rfl (Wl.buildF (ps := [(0, .tmp 92), (1, .tmp 97)]) (parts := [(0, vs e8), (1, vs vv)]) rfl rfl (by simp [Value.cells]) (Wl.nil ⟨rfl, n2.any, ?_⟩))
      refine Wt.chain rfl (Wl.buildSlice1 (R := rPr) (y := (e8, vv)) (Pe := No) goodPr rfl rfl rfl rfl (by omega) (by omega) fun vt w3 ot n3 s3 hobt => ?_)
      have n13 := New.trans n2 n3
      have sz3 := n13.size
      refine Wl.nil ⟨rfl, n13.any, ?_⟩
      refine Wt.chain rfl (Wl.appendAll goodPr (ow.new plainPr n13) (ot.rd (mono_flat pC)) (fun y cs hy => hy) rfl rfl (by omega) (by simp only [maxLen, List.length_singleton]; omega) (by simp only [List.length_singleton]; omega) fun pv4 w4 o4 c4 lie _ => ?_)
      have c14 : Chg (fun k => (Value.slice qa x.props.length qc).ownBlock = some k) w1 w4 := Chg.trans n13.any c4 (fun _ _ e => e)
      refine Wl.nil ⟨rfl, c14, ?_⟩
      obtain ⟨ra, rc, rfl, _, _⟩ := o4.form
      have ha4 := tr.arr.chg (plain_flat ndV) c14 fun k hk e => by have := (tr.arr.lt hk).1; rw [hpn k e] at this; cases this
      refine Wt.quiet rfl (Wq.idxP rfl rfl (by omega) (by omega) (Wq.nil ?_))
      (repeat' (refine Wt.quiet rfl (Wq.fieldAddr rfl rfl (Wq.nil ?_))))
      refine Wt.last rfl (Wl.storeOwnF (f := ndV) (g := gb) (j := N) (o := 2) (cap := nc) (p := (x, (qa, x.props.length, qc))) (q := ({ x with props := x.props ++ [(e8, vv)] }, (ra, (x.props ++ [(e8, vv)]).length, rc))) (u := .slice ra (x.props ++ [(e8, vv)]).length rc) (fun _ => rfl) (by omega) rfl hz rfl ha4 (by rw [hzl]) (by show Value.pointer (some ⟨gb, 0 + (N : Int).toNat * 3 + 2, none⟩) = _; simp) rfl fun w5 o5 c5 => ?_)
      obtain ⟨lab', tr', _⟩ := tr.setProps sz1 hx hpv c14 (pv' := (ra, (x.props ++ [(e8, vv)]).length, rc)) (o4.mono (mono_flat pC) (fun k hk e => by
        rcases e with e | e
        · exact .inl e
        · exact .inr (by omega)) fun _ _ e => e) c5 o5
      have n15 : New w w5 := Chg.trans (Chg.trans n1 c14 fun b hb e => by have := (tr.low b _ (hpn b e)).1; omega) c5 fun b hb e => by have h1 := (tr.arr.lt e).1; have := (tr.low b _ h1).1; omega
      (repeat' (first | refine Wl.moveE (by conv => { lhs; whnf }) ?_ | refine Wl.nil ?_ | refine Qseq.normal ?_ | refine Wc.region ?_ | refine Wl.add rfl rfl (by omega) (by omega) ?_))
      refine Wl.call (kU _ n2_ _ rfl (by omega)) rfl ?_
      rintro _ _ ⟨rfl, rfl⟩
      (repeat' (first | refine Wl.assignE (by conv => { lhs; whnf }) ?_ | refine Wl.nil ?_ | refine Qblk.normal ?_ | refine Wl.add rfl rfl (by omega) (by omega) ?_))
      refine Qloop.normal (_, l.set N { x with props := x.props ++ [(e8, vv)] }, (N : Int), a + 12 + up4 n2_, f, lab', pvs.set N (ra, (x.props ++ [(e8, vv)]).length, rc)) ⟨rfl, rfl, rfl, ?_, rfl, trivial⟩ ⟨hI.set hx (by omega) (by dsimp only; omega) hvl, tr', n15, hg, by dsimp only; omega, by dsimp only; omega⟩ (by dsimp only; omega)
      show vi _ = vi _
      congr 1
    · rw [if_neg (by omega), if_neg (by omega), if_pos (by omega), openAt_no (by omega)] at hg
      exact Qfn.ret1 rfl rfl ⟨_, rfl, hnil n1 hg⟩
    · rw [if_neg (by omega), if_neg (by omega), if_pos (by omega)] at hg
      obtain ⟨N, rfl⟩ := Int.eq_ofNat_of_zero_le (show 0 ≤ o by omega)
      obtain ⟨x, hx⟩ := get_lt l (k := N) (by omega)
      rw [openAt_at hx] at hg
      refine Wl.idxAddr tr.rd rfl rfl (by omega) (by rw [Int.toNat_natCast]; exact hx) fun b o' cs hl hR hat => ?_
      obtain ⟨pv, rfl, hpr⟩ := hR
      (repeat' (refine Wl.fieldAddr rfl rfl ?_))
      refine Wl.load1 rfl (hat.get 0 rfl) ?_
      (repeat' (first | refine Wl.moveE (by conv => { lhs; whnf }) ?_ | refine Wl.assignE (by conv => { lhs; whnf }) ?_ | refine Wl.nil ?_ | refine Qseq.normal ?_ | refine Wc.region ?_ | refine Qblk.normal ?_ | refine Wl.add rfl rfl (by omega) (by omega) ?_))
      refine Qloop.normal (_, l, x.parent, a + 4, f, lab, pvs) ⟨rfl, rfl, rfl, ?_, rfl, trivial⟩ ⟨hI.up hx, tr, n1, hg, by dsimp only; omega, by dsimp only; omega⟩ (by dsimp only; omega)
      show vi _ = vi _
      congr 1
    · rw [if_neg (by omega), if_neg (by omega), if_neg (by omega)] at hg
      rw [hg]
      exact Qfn.ret1 rfl rfl ⟨_, rfl, lab, pvs, tr, hI.sz hs, n1⟩
  · rw [guess_stop (by omega)] at hg
    rw [hg]
    exact Qfn.ret1 rfl rfl ⟨_, rfl, lab, pvs, tr, hI.sz hs, n1⟩
  · rw [guess_stop (by omega)] at hg
    rw [hg]
    exact Qfn.ret1 rfl rfl ⟨_, rfl, lab, pvs, tr, hI.sz hs, n1⟩
set_option maxRecDepth 4000 in
theorem DecodeR_spec {w : World} {s : List UInt8} (hs : s.length ≤ 140737488351232) :
    Calls Tryd.prog 19 #[vs s] w (Ret fun v w' => ∃ nv lab pvs, v = .tuple #[nv, vi (decM s).2] ∧ TrOwn w.heap.size lab w' nv (decM s).1 pvs ∧ New w w') := by
  rw [decM_R]
  unfold decR
  refine calls_of_Wc Tryd.func19 rfl Tryd.ntmps19 rfl ?_
  (repeat' (first | refine Wl.moveE (by conv => { lhs; whnf }) ?_ | refine Wl.assignE (by conv => { lhs; whnf }) ?_ | refine Wl.nil ?_ | refine Qseq.normal ?_ | refine Wc.seq ?_ | refine Wc.region ?_))
  refine Wl.call (guessR_spec hs) rfl ?_
  rintro _ w1 ⟨lab, pvs, tr, hz, n1⟩
  generalize guessM s = l at *
  obtain ⟨na, nc, rfl, _, _⟩ := tr.rd.form
  (repeat' (first | refine Wl.moveE (by conv => { lhs; whnf }) ?_ | refine Wl.assignE (by conv => { lhs; whnf }) ?_ | refine Wl.nil ?_ | refine Qseq.normal ?_ | refine Wc.seq ?_ | refine Wc.region ?_))
  refine Wl.call (EncodeR_spec tr.rd hz) rfl ?_
  rintro _ w2 ⟨rfl, n2⟩
  have n02 := New.trans n1 n2
  cases ht : treeOk l with
  | false =>
    rw [if_neg (by simp), if_neg (by simp), if_neg (by simp)]
    (repeat' (first | refine Wl.moveE (by conv => { lhs; whnf }) ?_ | refine Wl.assignE (by conv => { lhs; whnf }) ?_ | refine Wl.nil ?_ | refine Wl.extract rfl rfl ?_ | refine Wl.guardN rfl rfl ?_ | refine Wl.pickTE rfl (by conv => { lhs; whnf }) ?_ | refine Qseq.normal ?_ | refine Wc.seq ?_ | refine Wc.region ?_ | refine Wc.ret ?_ | refine Qseq.ret ?_ | refine Wc.condT rfl ?_ | (refine Wl.neq rfl rfl (fun _ => ?_) (fun _ => ?_) <;> (first | (exfalso; omega) | skip))))
    exact Qfn.ret2 rfl rfl rfl ⟨_, rfl, _, _, _, rfl, TrOwn.nil, n02⟩
  | true =>
    rw [if_pos rfl, if_pos rfl]
    generalize encL l = A at *
    (repeat' (first | refine Wl.moveE (by conv => { lhs; whnf }) ?_ | refine Wl.assignE (by conv => { lhs; whnf }) ?_ | refine Wl.nil ?_ | refine Wl.extract rfl rfl ?_ | refine Wl.guardY rfl rfl ?_ | refine Wl.pickFE rfl (by conv => { lhs; whnf }) ?_ | refine Qseq.normal ?_ | refine Wc.seq ?_ | refine Wc.region ?_ | refine Wc.skip ?_ | refine Wc.ret ?_ | refine Qseq.ret ?_ | refine Wc.condT rfl ?_ | refine Wc.condF rfl ?_ | (refine Wl.neq rfl rfl (fun _ => ?_) (fun _ => ?_) <;> (first | (exfalso; omega) | skip)) | refine Wl.sneq rfl rfl (fun _ => ?_) (fun _ => ?_)))
    · rw [if_neg (fun e => by first | exact absurd e.2 (by assumption) | exact absurd e.2.symm (by assumption))]
      exact Qfn.ret2 rfl rfl rfl ⟨_, rfl, _, _, _, rfl, TrOwn.nil, n02⟩
    · rw [if_pos ⟨rfl, by first | assumption | exact Eq.symm (by assumption)⟩]
      exact Qfn.ret2 rfl rfl rfl ⟨_, rfl, _, _, _, rfl, tr.new n2, n02⟩
theorem look_none {s : List UInt8} (h : decM s = ([], 4)) : lookM s = ([0, 0, 0, 0], 4) := by
  unfold decM at h
  unfold lookM
  cases hr : readM s with
  | none => rfl
  | some q => obtain ⟨l, hd⟩ := q; rw [hr] at h; cases h
set_option maxRecDepth 4000 in
theorem LookR_spec {w : World} {s : List UInt8} (hs : s.length ≤ 140737488351232) :
    Calls Tryd.prog 21 #[vs s] w (Ret fun v w' => v = .tuple #[.agg ((lookM s).1.map fun k : Nat => vi k).toArray, vi (lookM s).2] ∧ New w w') := by
  refine calls_of_Wc Tryd.func21 rfl Tryd.ntmps21 rfl ?_
  (repeat' (first | refine Wc.seq ?_ | refine Wc.region ?_))
  refine Wl.alloc fun w1 b1 n1 s1 => ?_
  (repeat' (first | refine Wl.moveE (by conv => { lhs; whnf }) ?_ | refine Wl.assignE (by conv => { lhs; whnf }) ?_ | refine Wl.nil ?_ | refine Qseq.normal ?_ | refine Wc.seq ?_ | refine Wc.region ?_))
  refine Wl.call (DecodeR_spec hs) rfl ?_
  rintro _ w2 ⟨nv, lab, pvs, rfl, tr, n2⟩
  obtain ⟨na, nc, rfl, _, _⟩ := tr.rd.form
  replace b1 : Bk w2 w.heap.size 47 [vi 0, vi 0, vi 0, vi 0] := b1.chg n2 id
  have n02 := New.trans n1 n2
  rcases decM_cases s with ⟨l, hd, hok, hse⟩ | hd
  · rw [hd] at tr ⊢
    dsimp only at tr ⊢
    have hlk := look_full hok
    rw [← hse] at hlk
    have hN := tree_NdB hok
    have hs1 := struct_size hok
    have hs2 := names_size hok
    rw [hlk]
    unfold headL
    rw [← hse]
    clear hlk hse hd
    (repeat' (first | refine Wl.moveE (by conv => { lhs; whnf }) ?_ | refine Wl.assignE (by conv => { lhs; whnf }) ?_ | refine Wl.nil ?_ | refine Wl.extract rfl rfl ?_ | refine Wl.lenStr rfl ?_ | refine Qseq.normal ?_ | refine Wc.seq ?_ | refine Wc.region ?_ | refine Wc.skip ?_ | refine Wc.condF rfl ?_ | (refine Wl.neq rfl rfl (fun _ => ?_) (fun _ => ?_) <;> (first | (exfalso; omega) | skip))))
    refine Wl.call (structR_spec tr.rd hok) rfl ?_
    rintro _ w3 ⟨rfl, n3⟩
    have n03 := New.trans n02 n3
    (repeat' (first | refine Wl.moveE (by conv => { lhs; whnf }) ?_ | refine Wl.lenStr rfl ?_))
    refine Wl.call (stringsR_spec (tr.new n3).rd (tree_pr hok) hN.len (by omega)) rfl ?_
    rintro _ w4 ⟨rfl, n4⟩
    generalize (structL l) = S at *
    generalize (stringsL l) = T at *
    have n04 := New.trans n03 n4
    replace b1 := (b1.chg n3 id).chg n4 id
    (repeat' (first | refine Wl.moveE (by conv => { lhs; whnf }) ?_ | refine Wl.lenS rfl ?_ | refine Wl.lenStr rfl ?_))
    refine Wl.buildF (ps := [(0, .tmp 16), (1, .tmp 19), (2, .tmp 22), (3, .tmp 24)]) (parts := [(0, vi s.length), (1, vi S.length), (2, vi T.length), (3, vi l.length)]) rfl rfl (by simp [Value.cells]) ?_
    refine Wl.storeB (u := .agg #[vi s.length, vi S.length, vi T.length, vi l.length]) (new := [vi s.length, vi S.length, vi T.length, vi l.length]) b1 rfl rfl rfl rfl (show (4 : Nat) ≤ 4 from Nat.le_refl 4) (by simp [Value.oneCell']) fun w5 b5 c5 _ => ?_
    replace b5 : Bk w5 w.heap.size 47 [vi s.length, vi S.length, vi T.length, vi l.length] := b5
    (repeat' (first | refine Wl.assignE (by conv => { lhs; whnf }) ?_ | refine Wl.nil ?_ | refine Qseq.normal ?_ | refine Wc.ret ?_))
    exact Qfn.retR (results2 (a := .cell 2 47) (b := .tmp 3) rfl (rvOf_agg rfl rfl b5 rfl) (rvOf_tmp rfl)) ⟨_, rfl, rfl, Chg.trans n04 c5 fun k hk e => by omega⟩
  · rw [look_none hd]
    rw [hd] at tr ⊢
    (repeat' (first | refine Wl.moveE (by conv => { lhs; whnf }) ?_ | refine Wl.assignE (by conv => { lhs; whnf }) ?_ | refine Wl.nil ?_ | refine Wl.extract rfl rfl ?_ | refine Qseq.normal ?_ | refine Wc.seq ?_ | refine Wc.region ?_ | refine Wc.condT rfl ?_ | (refine Wl.neq rfl rfl (fun _ => ?_) (fun _ => ?_) <;> (first | (exfalso; omega) | skip))))
    refine Wl.buildF (ps := []) (parts := []) rfl rfl (by simp [Value.cells]) ?_
    (repeat' (refine Wl.moveE (by conv => { lhs; whnf }) ?_))
    refine Wl.storeB (u := .agg #[vi 0, vi 0, vi 0, vi 0]) (new := [vi 0, vi 0, vi 0, vi 0]) b1 rfl rfl rfl rfl (show (4 : Nat) ≤ 4 from Nat.le_refl 4) (by simp [Value.oneCell']) fun w5 b5 c5 _ => ?_
    replace b5 : Bk w5 w.heap.size 47 [vi 0, vi 0, vi 0, vi 0] := b5
    (repeat' (first | refine Wl.assignE (by conv => { lhs; whnf }) ?_ | refine Wl.nil ?_ | refine Qseq.normal ?_ | refine Wc.ret ?_ | refine Qseq.ret ?_))
    exact Qfn.retR (results2 (a := .cell 2 47) (b := .tmp 3) rfl (rvOf_agg rfl rfl b5 rfl) (rvOf_tmp rfl)) ⟨_, rfl, rfl, Chg.trans n02 c5 fun k hk e => by omega⟩
end Go.Proofs.YtlkhajheecglgaaDoor

namespace Go.Proofs.YtlkhajheecglgaaDoor
open Go Wk
open Go.RowKit (Below)
attribute [local irreducible] Go.Calls

/-- Texts of this length at most. -/
def Short (t : List Nd) : Prop := ∀ x ∈ t, ∀ p ∈ x.props, p.1.length ≤ maxLen ∧ p.2.length ≤ maxLen
theorem Sz.short {t : List Nd} (h : Sz t) : Short t := fun x hx p hp => by
  have := h.tx x hx p hp
  simp only [maxLen]; omega
set_option maxHeartbeats 1000000 in
set_option maxRecDepth 4000 in
theorem Same_spec {Pc Pd : Nat → Prop} {w : World} {cv dv : Value} {t : List Nd} (hc : RdS rNd 3 Pc w cv t) (hd : RdS rNd 3 Pd w dv t) (hs : Short t) :
    Calls Tryd.prog 22 #[cv, dv] w (Ret fun r w' => r = .bool true ∧ New w w') := by
  obtain ⟨ca, cc, rfl, hcc1, hcc2⟩ := hc.form
  obtain ⟨da, dc, rfl, hdc1, hdc2⟩ := hd.form
  simp only [maxLen] at hcc2
  refine calls_of_Wc Tryd.func22 rfl Tryd.ntmps22 rfl ?_
  (repeat' (first | refine Wl.moveE (by conv => { lhs; whnf }) ?_ | refine Wl.assignE (by conv => { lhs; whnf }) ?_ | refine Wl.nil ?_ | refine Wl.lenS rfl ?_ | refine Qseq.normal ?_ | refine Wc.seq ?_ | refine Wc.region ?_ | refine Wc.block ?_ | refine Wc.skip ?_ | refine Wc.condF rfl ?_ | (refine Wl.neq rfl rfl (fun _ => ?_) (fun _ => ?_) <;> (first | (exfalso; omega) | skip))))
  refine Wc.loop (σ := Nat) (fun i => [(0, .slice ca t.length cc), (1, .slice da t.length dc), (5, vi i)]) (fun i w' => i ≤ t.length ∧ New w w') (fun i => t.length - i) 0 ⟨rfl, rfl, rfl, trivial⟩ ⟨Nat.zero_le _, Chg.refl _ _⟩ ?_
  rintro i G w1 ⟨hi, n1⟩
  have hc1 := hc.keep stableNd n1.keep
  have hd1 := hd.keep stableNd n1.keep
  simp only [upds]
  (repeat' (first | refine Wl.moveE (by conv => { lhs; whnf }) ?_ | refine Wl.assignE (by conv => { lhs; whnf }) ?_ | refine Wl.nil ?_ | refine Wl.lenS rfl ?_ | refine Qseq.normal ?_ | refine Wc.seq ?_ | refine Wc.region ?_ | refine Wc.block ?_ | refine Wc.skip ?_ | refine Wc.exit ?_ | refine Wc.ret ?_ | refine Qseq.exit ?_ | refine Qblk.hit ?_ | refine Qloop.exit ?_ | refine Wc.condT rfl ?_ | refine Wc.condF rfl ?_ | refine Wl.lss rfl rfl (fun _ => ?_) (fun _ => ?_)))
  · obtain ⟨x, hx⟩ := get_lt t (k := i) (by omega)
    refine Wc.regionN rfl (by kernel_rfl) ?_
    (repeat' (refine Wq.moveE (by conv => { lhs; whnf }) ?_))
    refine Wq.idxAddr hc1 (fun w' hw => New.keep hw) rfl rfl (by omega) hx fun b o cs hl hR hat => ?_
    obtain ⟨xv, rfl, hxr⟩ := hR
    obtain ⟨xa, xc, rfl, hxc1, hxc2⟩ := hxr.form
    (repeat' (refine Wq.fieldAddr rfl rfl ?_))
    refine Wq.load1 rfl (fun w' hw => (hat w' hw).get 0 rfl) ?_
    clear hat
    (repeat' (refine Wq.moveE (by conv => { lhs; whnf }) ?_))
    refine Wq.idxAddr hd1 (fun w' hw => New.keep hw) rfl rfl (by omega) hx fun b o cs hl hR hat => ?_
    obtain ⟨yv, rfl, hyr⟩ := hR
    obtain ⟨ya, yc, rfl, hyc1, hyc2⟩ := hyr.form
    (repeat' (refine Wq.fieldAddr rfl rfl ?_))
    refine Wq.load1 rfl (fun w' hw => (hat w' hw).get 0 rfl) ?_
    clear hat
    (repeat' (first | refine Wq.moveE (by conv => { lhs; whnf }) ?_ | refine Wq.guardY rfl rfl ?_ | (refine Wq.neq rfl rfl (fun _ => ?_) (fun _ => ?_) <;> (first | (exfalso; omega) | skip))))
    refine Wq.idxAddr hc1 (fun w' hw => New.keep hw) rfl rfl (by omega) hx fun b o cs hl hR hat => ?_
    obtain ⟨_, rfl, _⟩ := hR
    (repeat' (first | refine Wq.guardY rfl rfl ?_ | refine Wq.fieldAddr rfl rfl ?_))
    refine Wq.load1 rfl (fun w' hw => (hat w' hw).get 1 rfl) ?_
    clear hat
    (repeat' (first | refine Wq.moveE (by conv => { lhs; whnf }) ?_ | refine Wq.guardY rfl rfl ?_))
    refine Wq.idxAddr hd1 (fun w' hw => New.keep hw) rfl rfl (by omega) hx fun b o cs hl hR hat => ?_
    obtain ⟨_, rfl, _⟩ := hR
    (repeat' (first | refine Wq.guardY rfl rfl ?_ | refine Wq.fieldAddr rfl rfl ?_))
    refine Wq.load1 rfl (fun w' hw => (hat w' hw).get 1 rfl) ?_
    clear hat
    (repeat' (first | refine Wq.moveE (by conv => { lhs; whnf }) ?_ | refine Wq.guardY rfl rfl ?_ | refine Wq.pickFE rfl (by conv => { lhs; whnf }) ?_ | (refine Wq.sneq rfl rfl (fun _ => ?_) (fun _ => ?_) <;> (first | (exfalso; contradiction) | skip))))
    refine Wq.idxAddr hc1 (fun w' hw => New.keep hw) rfl rfl (by omega) hx fun b o cs hl hR hat => ?_
    obtain ⟨v1, rfl, h1⟩ := hR
    obtain ⟨_, _, rfl, _, _⟩ := h1.form
    (repeat' (first | refine Wq.guardY rfl rfl ?_ | refine Wq.fieldAddr rfl rfl ?_))
    refine Wq.load1 rfl (fun w' hw => (hat w' hw).get 2 rfl) ?_
    clear hat
    (repeat' (first | refine Wq.moveE (by conv => { lhs; whnf }) ?_ | refine Wq.guardY rfl rfl ?_ | refine Wq.lenS rfl ?_))
    refine Wq.idxAddr hd1 (fun w' hw => New.keep hw) rfl rfl (by omega) hx fun b o cs hl hR hat => ?_
    obtain ⟨v2, rfl, h2⟩ := hR
    obtain ⟨_, _, rfl, _, _⟩ := h2.form
    (repeat' (first | refine Wq.guardY rfl rfl ?_ | refine Wq.fieldAddr rfl rfl ?_))
    refine Wq.load1 rfl (fun w' hw => (hat w' hw).get 2 rfl) ?_
    clear hat
    (repeat' (first | refine Wq.nil ?_ | refine Wq.guardY rfl rfl ?_ | refine Wq.pickFE rfl (by conv => { lhs; whnf }) ?_ | refine Wq.lenS rfl ?_ | (refine Wq.neq rfl rfl (fun _ => ?_) (fun _ => ?_) <;> (first | (exfalso; omega) | skip))))
    intro w2 n2
    have hxm : x.props.length ≤ maxLen := Nat.le_trans hxc1 hxc2
    simp only [maxLen] at hxm
    (repeat' (first | refine Wl.assignE (by conv => { lhs; whnf }) ?_ | refine Wl.nil ?_ | refine Qseq.normal ?_ | refine Wc.seq ?_ | refine Wc.region ?_ | refine Wc.block ?_ | refine Wc.skip ?_ | refine Wc.condF rfl ?_))
    refine Wc.loop (σ := Nat) (fun j => [(0, .slice ca t.length cc), (1, .slice da t.length dc), (5, vi i), (6, vi j)]) (fun j w' => j ≤ x.props.length ∧ New w w') (fun j => x.props.length - j) 0 ⟨rfl, rfl, rfl, rfl, trivial⟩ ⟨Nat.zero_le _, New.trans n1 n2⟩ ?_
    rintro j G w3 ⟨hj, n3⟩
    have hc3 := hc.keep stableNd n3.keep
    have hd3 := hd.keep stableNd n3.keep
    clear h1 h2 hxr hyr
    simp only [upds]
    (repeat' (first | refine Wl.moveE (by conv => { lhs; whnf }) ?_ | refine Wc.seq ?_ | refine Wc.region ?_))
    refine Wl.idxAddr hc3 rfl rfl (by omega) hx fun b o cs hl hR hat => ?_
    obtain ⟨xv, rfl, hxr⟩ := hR
    obtain ⟨xa, xc, rfl, hxc1, hxc2⟩ := hxr.form
    (repeat' (refine Wl.fieldAddr rfl rfl ?_))
    refine Wl.load1 rfl (hat.get 2 rfl) ?_
    clear hat
    (repeat' (first | refine Wl.moveE (by conv => { lhs; whnf }) ?_ | refine Wl.assignE (by conv => { lhs; whnf }) ?_ | refine Wl.nil ?_ | refine Wl.lenS rfl ?_ | refine Qseq.normal ?_ | refine Wc.seq ?_ | refine Wc.region ?_ | refine Wc.block ?_ | refine Wc.skip ?_ | refine Wc.exit ?_ | refine Qseq.exit ?_ | refine Qblk.normal ?_ | refine Qblk.hit ?_ | refine Qloop.exit ?_ | refine Wc.condT rfl ?_ | refine Wc.condF rfl ?_ | refine Wl.add rfl rfl (by omega) (by omega) ?_ | refine Wl.lss rfl rfl (fun _ => ?_) (fun _ => ?_)))
    · obtain ⟨q, hq⟩ := get_lt x.props (k := j) (by omega)
      have hql := hs x (List.mem_of_getElem? hx) q (List.mem_of_getElem? hq)
      refine Wc.regionN rfl (by kernel_rfl) ?_
      (repeat' (refine Wq.moveE (by conv => { lhs; whnf }) ?_))
      refine Wq.idxAddr hc3 (fun w' hw => New.keep hw) rfl rfl (by omega) hx fun b o cs hl hR hat => ?_
      obtain ⟨xv, rfl, hxr⟩ := hR
      (repeat' (refine Wq.fieldAddr rfl rfl ?_))
      refine Wq.load1 rfl (fun w' hw => (hat w' hw).get 2 rfl) ?_
      clear hat
      (repeat' (refine Wq.moveE (by conv => { lhs; whnf }) ?_))
      refine Wq.idxAddr hxr (fun w' hw => New.keep hw) rfl rfl (by omega) hq fun b o cs hl hR hat => ?_
      obtain rfl : cs = pC q := hR
      refine Wq.loadAt hat rfl rfl ?_
      clear hat
      (repeat' (refine Wq.moveE (by conv => { lhs; whnf }) ?_))
      refine Wq.idxAddr hd3 (fun w' hw => New.keep hw) rfl rfl (by omega) hx fun b o cs hl hR hat => ?_
      obtain ⟨yv, rfl, hyr⟩ := hR
      (repeat' (refine Wq.fieldAddr rfl rfl ?_))
      refine Wq.load1 rfl (fun w' hw => (hat w' hw).get 2 rfl) ?_
      clear hat
      (repeat' (refine Wq.moveE (by conv => { lhs; whnf }) ?_))
      refine Wq.idxAddr hyr (fun w' hw => New.keep hw) rfl rfl (by omega) hq fun b o cs hl hR hat => ?_
      obtain rfl : cs = pC q := hR
      refine Wq.loadAt hat rfl rfl ?_
      clear hat
      refine Wq.neqPrSame hql.1 hql.2 rfl rfl ?_
      (repeat' (refine Wq.nil ?_))
      intro w4 n4
      (repeat' (first | refine Wl.moveE (by conv => { lhs; whnf }) ?_ | refine Wl.assignE (by conv => { lhs; whnf }) ?_ | refine Wl.nil ?_ | refine Qseq.normal ?_ | refine Wc.region ?_ | refine Wc.skip ?_ | refine Qblk.normal ?_ | refine Wc.condF rfl ?_ | refine Wl.add rfl rfl (by omega) (by omega) ?_))
      exact Qloop.normal (j + 1) ⟨rfl, rfl, rfl, rfl, trivial⟩ ⟨by omega, New.trans n3 n4⟩ (by omega)
    · exact Qloop.normal (i + 1) ⟨rfl, rfl, rfl, trivial⟩ ⟨by omega, n3⟩ (by omega)
  · exact Qfn.ret1 rfl rfl ⟨_, rfl, rfl, n1⟩
end Go.Proofs.YtlkhajheecglgaaDoor

namespace Go.Proofs.YtlkhajheecglgaaDoor.Wk
open Go Go.RowKit

section
variable {α : Type} {R : Rel α} {Pb Pe : Nat → Prop} {xs : List α}
variable {P : Program} {n : Nat} {ds : List Deferred} {Q : Po} {F : Fr} {w w' : World} {ops rest : List Oper} {d d1 d2 : Nat} {ty ty1 ty2 : TypeId} {pos pos1 pos2 : String} {aft aft1 aft2 : Array Edge}
theorem weak {w w' : World} {v v' : Value} {m k : Nat} (h : (∃ p cap, v = .slice p m cap ∧ v' = .slice p (m + k) cap) ∨ New w w' ∧ ∀ b, v'.ownBlock = some b → w.heap.size ≤ b) : v'.ownBlock = v.ownBlock ∨ ∀ b, v'.ownBlock = some b → w.heap.size ≤ b := by
  rcases h with ⟨p, cap, rfl, rfl⟩ | h
  · left; cases p <;> rfl
  · exact .inr h.2
theorem run_append_k (t ty e : TypeId) {sz bytes : Nat} {agg : Bool} {z : Value} (ht : P.underlying t = some (.slice e)) (he : ElT P e sz bytes agg z) (hsz : 0 < sz)
    {Pb : Nat → Prop} {v : Value} {m : Nat} {cs : List Value} (hown : OwnC Pb w e sz v m cs)
    (a : Addr) (k c : Nat) (news : List Value) (hl : news.length = k * sz) (hnews : ∀ j u, news[j]? = some u → w.cell? (a.add j) = some u) (h1 : ∀ u ∈ news, u.oneCell' = true)
    (h63 : m + k ≤ maxLen) (hby : (m + k) * bytes ≤ 140737488355328) :
    ∃ v' w', (Builtin.append_ #[t, t] ty #[v, .slice (some a) k c]).run P w = .ok v' w' ∧ OwnC (fun b => Pb b ∨ w.heap.size ≤ b) w' e sz v' (m + k) (cs ++ news) ∧ Chg (fun b => v.ownBlock = some b) w w' ∧
      ((∃ p cap, v = .slice p m cap ∧ v' = .slice p (m + k) cap) ∨ New w w' ∧ ∀ b, v'.ownBlock = some b → w.heap.size ≤ b) := by
  obtain ⟨i, hi, hsz', hby', hz'⟩ := he.inf
  have hz := he.hz
  subst hsz'
  subst hby'
  have hsmall : m + k ≤ 9223372036854775807 := by simp only [maxLen] at h63; omega
  have hlen : (cs ++ news).length = (m + k) * i.size := by rw [List.length_append, hown.1, hl, Nat.add_mul]
  have grown : ∀ (old : Nat), old < m + k →
      OwnC (fun b => Pb b ∨ w.heap.size ≤ b) (w.drew.alloc (.cells (cs.toArray ++ news.toArray ++ Builtin.zeroCells z.cells (grownCap w (m + k) old e - (m + k))) e)) e i.size
        (.slice (some ⟨w.heap.size, 0, none⟩) (m + k) (grownCap w (m + k) old e)) (m + k) (cs ++ news) := by
    intro old ho
    have hge := grownCap_ge w (m + k) old e
    have hcm : grownCap w (m + k) old e ≤ maxLen := grownCap_le_maxLen w (m + k) old e h63
    refine ⟨hlen, .inr ⟨w.heap.size, _, _, rfl, .inr (Nat.le_refl _), heap_alloc_new w.drew _, hge, hcm, ?_, ?_⟩⟩
    · simp only [Array.size_append, List.size_toArray, size_zeroCells, hz, hown.1, hl, ← Nat.add_mul]
      congr 1
      omega
    · simp only [Array.toList_append, List.append_assoc]
      rw [← List.append_assoc, ← hlen]
      exact List.take_left
  have chg : ∀ M o, Chg M w (w.drew.alloc o) := fun M o => ⟨rfl, rfl, rfl, by simp, fun k hk _ => World.heap_old w.drew o hk⟩
  rcases hown.2 with ⟨rfl, rfl⟩ | ⟨g, cap, cur, rfl, hbg, hg, hnc, hcm, hcs, htake⟩
  · have hx : cs = [] := List.eq_nil_of_length_eq_zero (by simpa using hown.1)
    subst hx
    by_cases hm : k = 0
    · subst hm
      have hn : news = [] := List.eq_nil_of_length_eq_zero (by simpa using hl)
      subst hn
      refine ⟨.slice none 0 0, w, ?_, ⟨by simp, .inl ⟨rfl, rfl⟩⟩, Chg.refl _ _, .inl ⟨none, 0, rfl, rfl⟩⟩
      simp [Builtin.append_, run_underlying ht, sizeOf, typeInfo, hi, Builtin.lenOf, Builtin.firstCells, loadCells, loadCellsFrom]
    · have hr := run_append_nil (P := P) w t ty e i z ht hi hz' a k c news hl hnews (by omega) (by omega) (by have hb := hby; simp only [Nat.zero_add] at hb; omega)
      have hgr := grown 0 (by omega)
      simp only [Nat.zero_add, List.nil_append, Array.empty_append] at hgr ⊢
      exact ⟨_, _, hr, hgr, chg _ _, .inr ⟨chg _ _, fun b hb => by simp only [Value.ownBlock, Option.some.injEq] at hb; omega⟩⟩
  · by_cases hroom : m + k ≤ cap
    · have hfit : m * i.size + news.length ≤ cur.size := by rw [hl, hcs, ← Nat.add_mul]; exact Nat.mul_le_mul_right _ hroom
      have hr := run_append_room (P := P) w t ty e i ht hi g m cap cur hg a k c news hl hnews h1 hroom hfit
      refine ⟨_, _, hr, ⟨hlen, .inr ⟨g, cap, _, rfl, .inl hbg, setRow_heap w g cur _ e _ hg, hroom, hcm, ?_, ?_⟩⟩, Chg.setRow rfl, .inl ⟨_, _, rfl, rfl⟩⟩
      · simp only [List.size_toArray, List.length_append, List.length_take, List.length_drop, Array.length_toList]
        omega
      · rw [htake, ← hlen]
        exact List.take_left
    · have holds : ∀ j u, cs[j]? = some u → w.cell? ((⟨g, 0, none⟩ : Addr).add j) = some u := by
        intro j u hu
        rw [addr_add, Nat.zero_add]
        simp only [World.cell?, hg]
        rw [← htake, List.getElem?_take] at hu
        split at hu
        · simpa using hu
        · cases hu
      have hr := run_append_grow (P := P) w t ty e i z ht hi hz' ⟨g, 0, none⟩ m cap cs hown.1 holds a k c news hl hnews (by omega) (by omega) (growslice_fits (by omega) hby)
      exact ⟨_, _, hr, grown cap (by omega), chg _ _, .inr ⟨chg _ _, fun b hb => by simp only [Value.ownBlock, Option.some.injEq] at hb; omega⟩⟩
theorem Wl.append1K {x s : Operand} {t e : TypeId} {sz bytes : Nat} {agg : Bool} {z v u : Value} {y : α} {cs : List Value} (hR : GoodR R sz)
    (hown : OwnS R e sz Pb Pe w v xs) [ht : Und P t (.slice e)] [he : ElT P e sz bytes agg z] (hs : ev n F s = v) (hx : ev n F x = u) (hcs : u.cells.toList = cs) (hl : cs.length = sz) (hy : R (fun b => Pe b ∧ v.ownBlock ≠ some b) w y cs)
    (hsz : 0 < sz) (hsz2 : sz ≤ 16777216) (h63 : xs.length + 1 ≤ maxLen) (hby : (xs.length + 1) * bytes ≤ 140737488355328) (hd : Nat.blt d1 n = true) (hsd : (match s with | .tmp q => Nat.beq q d1 | _ => false) = false)
    (c : ∀ v' w' p, OwnS R e sz (fun b => Pb b ∨ w.heap.size ≤ b) Pe w' v' (xs ++ [y]) → Chg (fun b => v.ownBlock = some b) w w' → ((∃ p cap, v = .slice p xs.length cap ∧ v' = .slice p (xs.length + 1) cap) ∨ New w w' ∧ ∀ b, v'.ownBlock = some b → w.heap.size ≤ b) → Wl P n ds Q ops rest (upd (upd F d1 p) d2 v') w') :
    Wl P n ds Q ops (⟨some d1, .buildSlice t 1 #[(0, x)], ty1, pos1, aft1, none⟩ :: ⟨some d2, .call { callee := .builtin .append, args := #[s, .tmp d1], argTypes := #[t, t] }, ty2, pos2, aft2, none⟩ :: rest) F w := by
  obtain ⟨ocs, hoc, hoe⟩ := hown
  have h1 : ∀ c ∈ cs, c.oneCell' = true := hR.oc _ _ _ _ hy hl
  have huc : u.cells.size = sz := by rw [← hl, ← hcs]; simp
  have r1 := run_buildSlice1 (P := P) (w := w) ht.h he huc hsz hsz2
  let w1 := w.alloc (.cells u.cells e)
  have hk1 : New w w1 := Chg.alloc _ _ _
  have hnew : ∀ j q, cs[j]? = some q → w1.cell? ((⟨w.heap.size, 0, none⟩ : Addr).add j) = some q := by
    intro j q hq
    rw [addr_add, Nat.zero_add]
    have : w1.heap[w.heap.size]? = some (.cells u.cells e) := heap_alloc_new w _
    simp only [World.cell?, this]
    rw [← hcs] at hq
    simpa using hq
  obtain ⟨v', w', hr, h2, h3, h4⟩ := run_append_k (P := P) (w := w1) t ty2 e ht.h he hsz (hoc.keep hk1.keep) ⟨w.heap.size, 0, none⟩ 1 1 cs (by omega) hnew h1 h63 hby
  have hsize1 : w1.heap.size = w.heap.size + 1 := by simp [w1]
  have hel := elems_append (w := w1) (w' := w') (ys := [y]) (news := cs) hR hoc.1 (fun i x hx => hR.st _ _ _ _ _ hk1.keep (hoe i x hx))
    (fun i x hx => by
      have hi : i = 0 := by
        rcases Nat.eq_zero_or_pos i with h | h
        · exact h
        · rw [List.getElem?_eq_none (by simp; omega)] at hx; cases hx
      subst hi
      simp only [List.getElem?_cons_zero, Option.some.injEq] at hx
      subst hx
      simp only [Nat.zero_mul, List.drop_zero]
      rw [List.take_of_length_le (by omega)]
      exact hR.st _ _ _ _ _ hk1.keep hy) h3 (weak h4)
  refine Wl.val (w' := w1) (v := .slice (some ⟨w.heap.size, 0, none⟩) 1 1) ?_ (Wl.val (w' := w') (v := v') ?_ (c v' w' _ ⟨ocs ++ cs, ?_, hel⟩ ?_ (h4.imp id fun h => ⟨New.trans hk1 h.1, fun b hb => by have := h.2 b hb; omega⟩)))
  · simp only [execOp, List.map_toArray, List.map_cons, List.map_nil, hx, Sem.run_bind, r1, Result.andThen_ok, Sem.run_pure, w1]
  · have e1 : ev n (upd F d1 (.slice (some ⟨w.heap.size, 0, none⟩) 1 1)) s = v := by
      cases s with
      | tmp q =>
        simp only [ev] at hs ⊢
        rw [upd_eq, if_neg (Nat.ne_of_beq_eq_false hsd)]
        exact hs
      | _ => exact hs
    have e2 : ev n (upd F d1 (.slice (some ⟨w.heap.size, 0, none⟩) 1 1)) (.tmp d1) = .slice (some ⟨w.heap.size, 0, none⟩) 1 1 := by
      simp only [ev, hd, upd_eq, if_pos]
    simp only [execOp, resolve, invoke, builtin, Sem.run_bind, Sem.run_pure, Result.andThen_ok, List.map_toArray, List.map_cons, List.map_nil, e1, e2, hr]
  · rw [List.length_append, List.length_singleton]
    exact h2.mono fun b _ hb => hb.imp id (fun h => by omega)
  · exact hk1.any.trans h3 fun _ _ h => h
end
end Go.Proofs.YtlkhajheecglgaaDoor.Wk

namespace Go.Proofs.YtlkhajheecglgaaDoor
open Go Wk
open Go.RowKit (Below)
attribute [local irreducible] Go.Calls

/-- A list of props that is grown: it stays where it was, or what was lies as it did. -/
structure GrowI (Pb : Nat → Prop) (w0 w : World) (p : Option Addr) (cap : Nat) (xs : List Pr) (l : Value) (j : Nat) : Prop where
  ch : Chg (fun b => (Value.slice p xs.length cap).ownBlock = some b) w0 w
  lt : ∀ b, Pb b → b < w0.heap.size
  ow : (∃ ys : List Pr, ys.length = j ∧ l = .slice p (xs.length + j) cap ∧ OwnPr Pb w l (xs ++ ys)) ∨ (OwnPr Pb w (.slice p xs.length cap) xs ∧ ∃ ys : List Pr, ys.length = j ∧ OwnPr (fun b => w0.heap.size ≤ b) w l (xs ++ ys))
theorem GrowI.zero {Pb : Nat → Prop} {w : World} {p : Option Addr} {cap : Nat} {xs : List Pr} (h : OwnPr Pb w (.slice p xs.length cap) xs) (lt : ∀ b, Pb b → b < w.heap.size) : GrowI Pb w w p cap xs (.slice p xs.length cap) 0 :=
  ⟨Chg.refl _ _, lt, .inl ⟨[], rfl, rfl, by simpa using h⟩⟩
theorem OwnPr.cut {Pb : Nat → Prop} {w : World} {p : Option Addr} {m cap : Nat} {xs ys : List Pr} (h : OwnPr Pb w (.slice p m cap) (xs ++ ys)) (hm : m = xs.length + ys.length) : OwnPr Pb w (.slice p xs.length cap) xs := by
  have h2 := OwnS.take h (m := xs.length) (by simp) rfl (fun e => by
    subst e
    obtain ⟨cs, ⟨_, h | ⟨_, _, _, h, _⟩⟩, _⟩ := h
    · have := h.2; simp at this; simp [this]
    · cases h)
  rwa [List.take_left] at h2
theorem GrowI.fin {Pb : Nat → Prop} {w0 w : World} {p : Option Addr} {cap : Nat} {xs : List Pr} {l : Value} {j : Nat} (h : GrowI Pb w0 w p cap xs l j) : OwnPr Pb w (.slice p xs.length cap) xs := by
  rcases h.ow with ⟨ys, hy, rfl, o⟩ | ⟨o, _⟩
  · exact OwnPr.cut o (by rw [hy])
  · exact o
theorem GrowI.len {Pb : Nat → Prop} {w0 w : World} {p : Option Addr} {cap : Nat} {xs : List Pr} {l : Value} {j : Nat} (h : GrowI Pb w0 w p cap xs l j) : ∃ a c, l = .slice a (xs.length + j) c := by
  rcases h.ow with ⟨ys, hy, rfl, o⟩ | ⟨_, ys, hy, o⟩
  · exact ⟨_, _, rfl⟩
  · obtain ⟨a, c, rfl, _⟩ := o.form
    rw [List.length_append, hy]
    exact ⟨_, _, rfl⟩
section
variable {n : Nat} {ds : List Deferred} {Q : Po} {F : Fr} {w : World} {ops rest : List Oper} {d1 d2 : Nat} {ty1 ty2 : TypeId} {pos1 pos2 : String} {aft1 aft2 : Array Edge}
/-- 'l = append(l, p)' in such a list. -/
theorem Wl.growI {Pb : Nat → Prop} {w0 : World} {p : Option Addr} {cap : Nat} {xs : List Pr} {l : Value} {j : Nat} {x s : Operand} (y : Pr) (h : GrowI Pb w0 w p cap xs l j) (hs : ev n F s = l) (hx : ev n F x = .agg (pC y).toArray) (hb : xs.length + j ≤ 3000000) (hd : Nat.blt d1 n = true) (hsd : (match s with | .tmp q => Nat.beq q d1 | _ => false) = false)
    (c : ∀ l' w' p', GrowI Pb w0 w' p cap xs l' (j + 1) → Wl Tryd.prog n ds Q ops rest (upd (upd F d1 p') d2 l') w') :
    Wl Tryd.prog n ds Q ops (⟨some d1, .buildSlice 37 1 #[(0, x)], ty1, pos1, aft1, none⟩ :: ⟨some d2, .call { callee := .builtin .append, args := #[s, .tmp d1], argTypes := #[37, 37] }, ty2, pos2, aft2, none⟩ :: rest) F w := by
  have s0 := h.ch.size
  rcases h.ow with ⟨ys, hy, rfl, o⟩ | ⟨ob, ys, hy, o⟩
  · refine Wl.append1K (R := rPr) (y := y) (cs := pC y) goodPr o hs hx rfl rfl rfl (by omega) (by omega) (by rw [List.length_append, hy]; simp only [maxLen]; omega) (by rw [List.length_append, hy]; omega) hd hsd fun v' w' p' o' c' lie => c v' w' p' ?_
    have c2 : Chg (fun b => (Value.slice p xs.length cap).ownBlock = some b) w0 w' := Chg.trans h.ch c' fun b _ e => by cases p <;> exact e
    rcases lie with ⟨q, qc, e1, rfl⟩ | ⟨nw, fr⟩
    · simp only [Value.slice.injEq] at e1
      obtain ⟨rfl, e1, rfl⟩ := e1
      refine ⟨c2, h.lt, .inl ⟨ys ++ [y], by simp [hy], by rw [List.length_append, hy, Nat.add_assoc], ?_⟩⟩
      rw [← List.append_assoc]
      exact o'.reblk fun b e _ => (o.lt (k := b) (by cases p <;> exact e)).1
    · refine ⟨c2, h.lt, .inr ⟨(OwnPr.cut o (by rw [hy])).new plainPr nw, ys ++ [y], by simp [hy], ?_⟩⟩
      rw [← List.append_assoc]
      exact o'.reblk fun b e _ => by have := fr b e; omega
  · refine Wl.append1K (R := rPr) (y := y) (cs := pC y) goodPr o hs hx rfl rfl rfl (by omega) (by omega) (by rw [List.length_append, hy]; simp only [maxLen]; omega) (by rw [List.length_append, hy]; omega) hd hsd fun v' w' p' o' c' lie => c v' w' p' ?_
    refine ⟨Chg.trans h.ch c' fun b hb e => by have := (o.lt e).1; omega, h.lt, .inr ⟨ob.chg plainPr c' fun b e1 e2 => by have := h.lt b (ob.lt e1).1; have := (o.lt e2).1; omega, ys ++ [y], by simp [hy], ?_⟩⟩
    rw [← List.append_assoc]
    exact o'.reblk fun b e e2 => by rcases e2 with e2 | e2 <;> omega
end
/-- A tree that is written over: the list of nodes from one place on, the props from another one on. -/
structure OvI (lab : Lb) (w0 w : World) (a : Option Addr) (cap : Nat) (t : List Nd) (pvs : List Sl) (i q : Nat) : Prop where
  arr : ∃ L : List (Nd × Sl), L.length = t.length ∧ OwnS (flat ndV) tNd 3 (fun b => lab b = some 0) No w (.slice a t.length cap) L ∧ ∀ j, i ≤ j → L[j]? = (t.zip pvs)[j]?
  pr : ∀ j x pv, q ≤ j → t[j]? = some x → pvs[j]? = some pv → OwnPr (fun b => lab b = some (j + 1)) w (slV pv) x.props
  ch : Chg (fun b => lab b ≠ none) w0 w
theorem OvI.chg {lab : Lb} {w0 w w' : World} {a : Option Addr} {cap : Nat} {t : List Nd} {pvs : List Sl} {i q k : Nat} {M : Nat → Prop} (h : OvI lab w0 w a cap t pvs i q) (c : Chg M w w') (hM : ∀ b, M b → lab b = some k ∨ w.heap.size ≤ b) (hk : 0 < k) (hq : k ≤ q) : OvI lab w0 w' a cap t pvs i q := by
  obtain ⟨L, hl, o, hL⟩ := h.arr
  refine ⟨⟨L, hl, o.chg (plain_flat ndV) c fun b e1 e2 => ?_, hL⟩, fun j x pv hj hx hp => (h.pr j x pv hj hx hp).chg plainPr c fun b e1 e2 => ?_, Chg.trans h.ch c fun b hb e => ?_⟩
  · have := o.lt e1
    rcases hM b e2 with e | e
    · rw [this.1] at e; cases e; omega
    · omega
  · have := (h.pr j x pv hj hx hp).lt e1
    rcases hM b e2 with e | e
    · rw [this.1] at e; cases e; omega
    · omega
  · rcases hM b e with e | e
    · simp [e]
    · have := h.ch.size; omega
theorem goodPr1 : ∀ x : Pr, ∀ c ∈ pC x, c.oneCell' = true := by
  intro x c hc
  simp only [pC, List.mem_cons, List.not_mem_nil, or_false] at hc
  rcases hc with rfl | rfl <;> rfl
theorem goodNd1 : ∀ x : Nd × Sl, ∀ c ∈ ndV x, c.oneCell' = true := by
  intro x c hc
  simp only [ndV, List.mem_cons, List.not_mem_nil, or_false] at hc
  rcases hc with rfl | rfl | rfl <;> rfl
/-- One list of props was grown, and reads as it did. -/
theorem TrOwn.same {lo : Nat} {lab : Lb} {w w1 : World} {v : Value} {t : List Nd} {pvs : List Sl} {i : Nat} {x : Nd} {pv : Sl} (h : TrOwn lo lab w v t pvs) (hx : t[i]? = some x) (hp : pvs[i]? = some pv) (c : Chg (fun b => (slV pv).ownBlock = some b) w w1) (o : OwnPr (fun b => lab b = some (i + 1)) w1 (slV pv) x.props) : TrOwn lo lab w1 v t pvs := by
  have hl : ∀ b, (slV pv).ownBlock = some b → lab b = some (i + 1) := fun b e => (o.lt e).1
  refine ⟨h.len, fun b q e => ⟨(h.low b q e).1, Nat.lt_of_lt_of_le (h.low b q e).2 c.size⟩, h.arr.chg (plain_flat ndV) c fun b e1 e2 => ?_, fun j y qv hy hq => ?_⟩
  · have := (h.arr.lt e1).1
    rw [hl b e2] at this; cases this
  · by_cases hij : i = j
    · subst hij
      rw [hx] at hy; rw [hp] at hq
      cases hy; cases hq
      exact o
    · have h0 := h.pr j y qv hy hq
      exact h0.chg plainPr c fun b e1 e2 => by
        have := (h0.lt e1).1
        rw [hl b e2] at this; cases this; exact hij rfl
set_option maxHeartbeats 2000000 in
set_option maxRecDepth 4000 in
theorem spoil_spec {lo : Nat} {lab : Lb} {w : World} {v : Value} {t : List Nd} {pvs : List Sl} (h : TrOwn lo lab w v t pvs) (hl : t.length ≤ 2000000) (hpl : ∀ x ∈ t, x.props.length ≤ 2000000) :
    Calls Tryd.prog 23 #[v] w (Ret fun r w' => r = .tuple #[] ∧ Chg (fun b => lab b ≠ none) w w') := by
  obtain ⟨a, cap, rfl, hcap, hcm⟩ := h.arr.form
  have hzl : (t.zip pvs).length = t.length := by simp [h.len]
  have arr := h.arr
  rw [hzl] at arr hcap ⊢
  have o0 : OvI lab w w a cap t pvs 0 0 := ⟨⟨_, hzl, arr, fun _ _ => rfl⟩, fun j x pv _ hx hp => h.pr j x pv hx hp, Chg.refl _ _⟩
  have hlw : ∀ b c, lab b = some c → b < w.heap.size := fun b c e => (h.low b c e).2
  have hpl2 := h.len
  clear h arr hcap
  refine calls_of_Wc Tryd.func23 rfl Tryd.ntmps23 rfl ?_
  (repeat' (first | refine Wl.assignE (by conv => { lhs; whnf }) ?_ | refine Wl.nil ?_ | refine Qseq.normal ?_ | refine Wc.seq ?_ | refine Wc.region ?_ | refine Wc.block ?_))
  refine Wc.loop (σ := Nat) (fun i => [(0, .slice a t.length cap), (2, vi i)]) (fun i w' => i ≤ t.length ∧ OvI lab w w' a cap t pvs i i) (fun i => t.length - i) 0 ⟨rfl, rfl, trivial⟩ ⟨Nat.zero_le _, o0⟩ ?_
  rintro i G w1 ⟨hi, o1⟩
  clear o0
  simp only [upds]
  (repeat' (first | refine Wl.moveE (by conv => { lhs; whnf }) ?_ | refine Wl.assignE (by conv => { lhs; whnf }) ?_ | refine Wl.nil ?_ | refine Wl.lenS rfl ?_ | refine Qseq.normal ?_ | refine Wc.seq ?_ | refine Wc.region ?_ | refine Wc.block ?_ | refine Wc.skip ?_ | refine Wc.exit ?_ | refine Qseq.exit ?_ | refine Qblk.hit ?_ | refine Qloop.exit ?_ | refine Wc.condT rfl ?_ | refine Wc.condF rfl ?_ | refine Wl.lss rfl rfl (fun _ => ?_) (fun _ => ?_)))
  · obtain ⟨x, hx⟩ := get_lt t (k := i) (by omega)
    obtain ⟨pv, hpv⟩ := get_lt pvs (k := i) (by omega)
    have hxl := hpl x (List.mem_of_getElem? hx)
    have ho := o1.pr i x pv (Nat.le_refl _) hx hpv
    have o1' : OvI lab w w1 a cap t pvs i (i + 1) := ⟨o1.arr, fun j y qv hj => o1.pr j y qv (by omega), o1.ch⟩
    clear o1
    obtain ⟨pa, pl, pc⟩ := pv
    obtain ⟨ra, rc, re, _, _⟩ := ho.form
    simp only [slV, Value.slice.injEq] at re
    obtain ⟨rfl, rfl, rfl⟩ := re
    simp only [slV] at ho
    have hz : (t.zip pvs)[i]? = some (x, (pa, x.props.length, pc)) := by rw [List.getElem?_zip_eq_some]; exact ⟨hx, hpv⟩
    refine Wc.loop (σ := Nat × List Pr) (fun s => [(0, .slice a t.length cap), (2, vi i), (3, vi s.1)]) (fun s w' => s.1 ≤ x.props.length ∧ s.2.length = x.props.length ∧ OwnPr (fun b => lab b = some (i + 1)) w' (.slice pa x.props.length pc) s.2 ∧ OvI lab w w' a cap t pvs i (i + 1)) (fun s => x.props.length - s.1) (0, x.props) ⟨rfl, rfl, rfl, trivial⟩ ⟨Nat.zero_le _, rfl, ho, o1'⟩ ?_
    clear ho o1'
    rintro ⟨k, ps⟩ G w2 ⟨hk, hps, ho, o2⟩
    dsimp only at hk hps ho o2
    simp only [upds]
    obtain ⟨L, hLl, oL, hL⟩ := o2.arr
    have hLi : L[i]? = some (x, (pa, x.props.length, pc)) := (hL i (Nat.le_refl _)).trans hz
    (repeat' (first | refine Wl.moveE (by conv => { lhs; whnf }) ?_ | refine Wc.seq ?_ | refine Wc.region ?_))
    refine Wl.idxAddr (oL.rd (mono_flat ndV)) rfl rfl (by omega) hLi fun b o cs hl hR hat => ?_
    obtain rfl : cs = ndV (x, _) := hR
    (repeat' (refine Wl.fieldAddr rfl rfl ?_))
    refine Wl.load1 (u := .slice pa x.props.length pc) rfl (hat.get 2 rfl) ?_
    clear hat
    (repeat' (first | refine Wl.moveE (by conv => { lhs; whnf }) ?_ | refine Wl.nil ?_ | refine Wl.lenS rfl ?_ | refine Qseq.normal ?_ | refine Wc.seq ?_ | refine Wc.region ?_ | refine Wc.block ?_ | refine Wc.skip ?_ | refine Wc.exit ?_ | refine Qseq.exit ?_ | refine Qblk.hit ?_ | refine Qloop.exit ?_ | refine Wc.condT rfl ?_ | refine Wc.condF rfl ?_ | refine Wl.lss rfl rfl (fun _ => ?_) (fun _ => ?_)))
    · refine Wl.idxAddr (oL.rd (mono_flat ndV)) rfl rfl (by omega) hLi fun b o cs hl hR hat => ?_
      obtain rfl : cs = ndV (x, _) := hR
      (repeat' (refine Wl.fieldAddr rfl rfl ?_))
      refine Wl.load1 (u := .slice pa x.props.length pc) rfl (hat.get 2 rfl) ?_
      clear hat
      (repeat' (refine Wl.moveE (by conv => { lhs; whnf }) ?_))
      refine Wl.buildF (ps := [(0, .const (vs [126]))]) (parts := [(0, vs [126])]) rfl rfl (by simp [Value.cells]) ?_
      obtain ⟨g, gc, ge, _⟩ := ho.blk (by intro e; rw [e] at hps; simp at hps; omega)
      rw [hps] at ge
      simp only [Value.slice.injEq] at ge
      obtain ⟨rfl, _, rfl⟩ := ge
      refine Wl.idxP rfl rfl (by omega) (by omega) ?_
      refine Wl.storeOwnA (f := pC) (q := ([126], [])) (j := k) (g := g) (cap := pc) (fun _ => rfl) goodPr1 ho (by rw [hps]) (by omega) (by show Value.pointer (some ⟨g, 0 + (k : Int).toNat * 2, none⟩) = _; simp) rfl rfl fun w3 o3 c3 => ?_
      (repeat' (first | refine Wl.moveE (by conv => { lhs; whnf }) ?_ | refine Wl.assignE (by conv => { lhs; whnf }) ?_ | refine Wl.nil ?_ | refine Qseq.normal ?_ | refine Wc.region ?_ | refine Qblk.normal ?_ | refine Wl.add rfl rfl (by omega) (by omega) ?_))
      exact Qloop.normal (k + 1, ps.set k ([126], [])) ⟨rfl, rfl, rfl, trivial⟩ ⟨by dsimp only; omega, by simpa using hps, o3, o2.chg c3 (fun b e => .inl (ho.lt e).1) (by omega) (Nat.le_refl _)⟩ (by dsimp only; omega)
    · refine Wl.buildF (ps := [(0, .const (vi (-7)))]) (parts := [(0, vi (-7))]) rfl rfl (by simp [Value.cells]) ?_
      obtain ⟨g, gc, ge, _⟩ := oL.blk (by intro e; rw [e] at hLl; simp at hLl; omega)
      rw [hLl] at ge
      simp only [Value.slice.injEq] at ge
      obtain ⟨rfl, _, rfl⟩ := ge
      refine Wl.idxP rfl rfl (by omega) (by omega) ?_
      refine Wl.storeOwnA (f := ndV) (q := (⟨-7, [], []⟩, (none, 0, 0))) (j := i) (g := g) (cap := cap) (fun _ => rfl) goodNd1 oL (by rw [hLl]) (by omega) (by show Value.pointer (some ⟨g, 0 + (i : Int).toNat * 3, none⟩) = _; simp) rfl rfl fun w4 o4 c4 => ?_
      (repeat' (first | refine Wl.moveE (by conv => { lhs; whnf }) ?_ | refine Wl.assignE (by conv => { lhs; whnf }) ?_ | refine Wl.nil ?_ | refine Qseq.normal ?_ | refine Wc.region ?_ | refine Qblk.normal ?_ | refine Wl.add rfl rfl (by omega) (by omega) ?_))
      refine Qloop.normal (i + 1) ⟨rfl, rfl, trivial⟩ ⟨by omega, ⟨_, by simpa using hLl, o4, fun j hj => ?_⟩, fun j y qv hj hy hq => ?_, Chg.trans o2.ch c4 fun b _ e => by rw [(oL.lt e).1]; simp⟩ (by omega)
      · rw [List.getElem?_set, if_neg (by omega)]
        exact hL j (by omega)
      · have ho3 := o2.pr j y qv hj hy hq
        exact ho3.chg plainPr c4 fun b e1 e2 => by have h1 := (ho3.lt e1).1; rw [(oL.lt e2).1] at h1; cases h1
  · obtain ⟨L, hLl, oL, _⟩ := o1.arr
    refine Wc.loop (σ := Nat × Value × List (Nd × Sl)) (fun s => [(0, s.2.1), (4, vi s.1)]) (fun s w' => s.1 ≤ 20 ∧ s.2.2.length = t.length + s.1 ∧ OwnS (flat ndV) tNd 3 (fun b => lab b = some 0 ∨ w.heap.size ≤ b) No w' s.2.1 s.2.2 ∧ Chg (fun b => lab b ≠ none) w w') (fun s => 20 - s.1)
      (0, .slice a t.length cap, L) ⟨rfl, rfl, trivial⟩ ⟨Nat.zero_le _, hLl, oL.reblk fun b _ e => .inl e, o1.ch⟩ ?_
    rintro ⟨m, l, zs⟩ G w2 ⟨hm, hzs, oz, c2⟩
    dsimp only at hm hzs oz c2
    obtain ⟨la, lc, rfl, _, _⟩ := oz.form
    have s2 := c2.size
    simp only [upds]
    (repeat' (first | refine Wl.moveE (by conv => { lhs; whnf }) ?_ | refine Wl.nil ?_ | refine Qseq.normal ?_ | refine Wc.seq ?_ | refine Wc.region ?_ | refine Wc.block ?_ | refine Wc.skip ?_ | refine Wc.exit ?_ | refine Qseq.exit ?_ | refine Qblk.hit ?_ | refine Qloop.exit ?_ | refine Wc.condT rfl ?_ | refine Wc.condF rfl ?_ | refine Wl.lss rfl rfl (fun _ => ?_) (fun _ => ?_)))
    · refine Wl.buildF (ps := [(0, .const (vi (-8)))]) (parts := [(0, vi (-8))]) rfl rfl (by simp [Value.cells]) ?_
      refine Wl.append1 (R := flat ndV) (y := (⟨-8, [], []⟩, (none, 0, 0))) goodNdV oz rfl rfl rfl rfl rfl (by omega) (by omega) (by simp only [maxLen]; omega) (by omega) rfl rfl fun v3 w3 p3 o3 c3 lie => ?_
      (repeat' (first | refine Wl.moveE (by conv => { lhs; whnf }) ?_ | refine Wl.assignE (by conv => { lhs; whnf }) ?_ | refine Wl.nil ?_ | refine Qseq.normal ?_ | refine Wc.region ?_ | refine Qblk.normal ?_ | refine Wl.add rfl rfl (by omega) (by omega) ?_))
      exact Qloop.normal (m + 1, v3, _) ⟨rfl, rfl, trivial⟩ ⟨by dsimp only; omega, by dsimp only; rw [List.length_append, hzs]; simp; omega, o3.reblk fun b _ e => (by rcases e with (e | e) | e; exact .inl e; exact .inr e; exact .inr (by omega)), Chg.trans c2 c3 fun b hb e => by
        rcases (oz.lt e).1 with e | e
        · rw [e]; simp
        · omega⟩ (by dsimp only; omega)
    · skip
      exact Qfn.end0 rfl ⟨_, rfl, rfl, c2⟩
end Go.Proofs.YtlkhajheecglgaaDoor

namespace Go.Proofs.YtlkhajheecglgaaDoor
open Go Wk
open Go.RowKit (Below)
attribute [local irreducible] Go.Calls

theorem dec_small (s : List UInt8) : (decM s).1.length ≤ 512 ∧ (∀ x ∈ (decM s).1, x.props.length ≤ 32) ∧ Short (decM s).1 := by
  rcases decM_cases s with ⟨l, hd, hok, _⟩ | hd
  · rw [hd]
    refine ⟨treeOk_len hok, fun x hx => propsOk_len (tree_pr hok x hx), fun x hx p hp => ?_⟩
    have := (propsOk_all (tree_pr hok x hx)).2 p hp
    have h1 := this.1.2
    simp only [maxLen]; omega
  · rw [hd]
    exact ⟨by simp, fun x hx => by simp at hx, fun x hx => by simp at hx⟩
theorem look_shape (s : List UInt8) : ∃ (d0 d1 d2 d3 : Nat) (e : Int), lookM s = ([d0, d1, d2, d3], e) := by
  rcases decM_cases s with ⟨l, hd, hok, hse⟩ | hd
  · refine ⟨(encL l).length, (structL l).length, (stringsL l).length, l.length, 0, ?_⟩
    have := look_full hok
    rw [hse]; exact this
  · exact ⟨0, 0, 0, 0, 4, look_none hd⟩
set_option maxRecDepth 4000 in
set_option maxHeartbeats 4000000 in
theorem reads_law {w : World} {s : List UInt8} (hs : s.length ≤ 140737488351232) :
    Calls Tryd.prog 5 #[vs s] w (Ret fun r w' => r = .bool true ∧ New w w') := by
  obtain ⟨hd1, hd2, hd3⟩ := dec_small s
  obtain ⟨d0, d1, d2, d3, le, hlk⟩ := look_shape s
  refine calls_of_Wc Tryd.func5 rfl Tryd.ntmps5 rfl ?_
  (repeat' (first | refine Wl.moveE (by conv => { lhs; whnf }) ?_ | refine Wl.assignE (by conv => { lhs; whnf }) ?_ | refine Wl.nil ?_ | refine Qseq.normal ?_ | refine Wc.seq ?_ | refine Wc.region ?_))
  refine Wl.call (Decode_spec (s := s) (by omega)) rfl ?_
  rintro _ w1 ⟨nv1, lab1, pv1, rfl, t1, n1⟩
  (repeat' (first | refine Wl.moveE (by conv => { lhs; whnf }) ?_ | refine Wl.assignE (by conv => { lhs; whnf }) ?_ | refine Wl.nil ?_ | refine Wl.extract rfl rfl ?_ | refine Qseq.normal ?_ | refine Wc.seq ?_ | refine Wc.region ?_))
  refine Wl.call (DecodeR_spec hs) rfl ?_
  rintro _ w2 ⟨nv2, lab2, pv2, rfl, t2, n2⟩
  (repeat' (first | refine Wl.moveE (by conv => { lhs; whnf }) ?_ | refine Wl.assignE (by conv => { lhs; whnf }) ?_ | refine Wl.nil ?_ | refine Wl.extract rfl rfl ?_ | refine Qseq.normal ?_ | refine Wc.seq ?_ | refine Wc.region ?_))
  refine Wl.call (Decode_spec (s := s) (by omega)) rfl ?_
  rintro _ w3 ⟨nv3, lab3, pv3, rfl, t3, n3⟩
  (repeat' (first | refine Wl.moveE (by conv => { lhs; whnf }) ?_ | refine Wl.assignE (by conv => { lhs; whnf }) ?_ | refine Wl.nil ?_ | refine Wl.extract rfl rfl ?_ | refine Qseq.normal ?_ | refine Wc.seq ?_ | refine Wc.region ?_))
  refine Wl.call (Look_spec (s := s) (by omega)) rfl ?_
  rintro _ w4 ⟨rfl, n4⟩
  rw [hlk]
  (repeat' (first | refine Wl.moveE (by conv => { lhs; whnf }) ?_ | refine Wl.extract rfl rfl ?_))
  refine Wl.alloc fun w5 b5 n5 s5 => ?_
  skip
  refine Wl.storeB (u := .agg #[vi d0, vi d1, vi d2, vi d3]) (new := [vi d0, vi d1, vi d2, vi d3]) b5 rfl rfl rfl rfl (show (4 : Nat) ≤ 4 from Nat.le_refl 4) (by simp [Value.oneCell']) fun w6 b6 c6 _ => ?_
  replace b6 : Bk w6 w4.heap.size 44 [vi d0, vi d1, vi d2, vi d3] := b6
  have n46 : New w4 w6 := Chg.trans n5 c6 fun k hk e => by omega
  clear b5 c6
  (repeat' (first | refine Wl.moveE (by conv => { lhs; whnf }) ?_ | refine Wl.assignE (by conv => { lhs; whnf }) ?_ | refine Wl.nil ?_ | refine Qseq.normal ?_ | refine Wc.seq ?_ | refine Wc.region ?_))
  refine Wl.call (LookR_spec hs) rfl ?_
  rintro _ w7 ⟨rfl, n7⟩
  rw [hlk]
  (repeat' (first | refine Wl.moveE (by conv => { lhs; whnf }) ?_ | refine Wl.extract rfl rfl ?_))
  refine Wl.alloc fun w8 b8 n8 s8 => ?_
  skip
  refine Wl.storeB (u := .agg #[vi d0, vi d1, vi d2, vi d3]) (new := [vi d0, vi d1, vi d2, vi d3]) b8 rfl rfl rfl rfl (show (4 : Nat) ≤ 4 from Nat.le_refl 4) (by simp [Value.oneCell']) fun w9 b9 c9 _ => ?_
  replace b9 : Bk w9 w7.heap.size 47 [vi d0, vi d1, vi d2, vi d3] := b9
  have n79 : New w7 w9 := Chg.trans n8 c9 fun k hk e => by omega
  have b69 := b6.keep (New.trans n7 n79).keep (Pb := fun _ => True) trivial
  clear b8 c9 b6
  have n39 := New.trans (New.trans n4 n46) (New.trans n7 n79)
  have n29 := New.trans n3 n39
  have n19 := New.trans n2 n29
  have n09 := New.trans n1 n19
  have hlo : ∀ b c, lab1 b = some c → w.heap.size ≤ b ∧ b < w1.heap.size := t1.low
  have z1 := n1.size
  have z2 := n2.size
  replace t1 := t1.new n19
  have r2 := t2.rd.keep stableNd n29.keep
  have r3 := t3.rd.keep stableNd n39.keep
  replace r3 := r3.mono monoNd (Pb' := fun b => w1.heap.size ≤ b) fun b _ hb => by omega
  clear t2 t3 n2 n3 n4 n5 n46 n7 n8 n79 n39 n29 n19 n1
  generalize hD : decM s = D at *
  obtain ⟨l, e⟩ := D
  dsimp only at *
  obtain ⟨a1, c1, rfl, _, _⟩ := t1.rd.form
  obtain ⟨a2, c2, rfl, _, _⟩ := r2.form
  obtain ⟨a3, c3, rfl, _, _⟩ := r3.form
  (repeat' (first | refine Wl.moveE (by conv => { lhs; whnf }) ?_ | refine Wl.assignE (by conv => { lhs; whnf }) ?_ | refine Wl.nil ?_ | refine Wl.guardY rfl rfl ?_ | refine Qseq.normal ?_ | refine Wc.seq ?_ | refine Wc.region ?_ | (refine Wl.neq rfl rfl (fun _ => ?_) (fun _ => ?_) <;> (first | (exfalso; omega) | skip))))
  refine Wl.call (Same_spec t1.rd r2 hd3) rfl ?_
  rintro _ w10 ⟨rfl, n10⟩
  have b610 := b69.keep n10.keep (Pb := fun _ => True) trivial
  have b910 := b9.keep n10.keep (Pb := fun _ => True) trivial
  clear b69 b9
  (repeat' (first | refine Wl.moveE (by conv => { lhs; whnf }) ?_ | refine Wl.guardY rfl rfl ?_ | refine Wl.pickFE rfl (by conv => { lhs; whnf }) ?_ | refine Wl.notB rfl ?_ | refine Wl.fieldAddr rfl rfl ?_ | (refine Wl.neq rfl rfl (fun _ => ?_) (fun _ => ?_) <;> (first | (exfalso; omega) | skip))))
  refine Wl.load1 rfl (b610.cell (o := 0) rfl) ?_
  (repeat' (first | refine Wl.guardY rfl rfl ?_ | refine Wl.fieldAddr rfl rfl ?_))
  refine Wl.load1 rfl (b910.cell (o := 0) rfl) ?_
  (repeat' (first | refine Wl.moveE (by conv => { lhs; whnf }) ?_ | refine Wl.guardY rfl rfl ?_ | refine Wl.pickFE rfl (by conv => { lhs; whnf }) ?_ | refine Wl.fieldAddr rfl rfl ?_ | (refine Wl.neq rfl rfl (fun _ => ?_) (fun _ => ?_) <;> (first | (exfalso; omega) | skip))))
  refine Wl.load1 rfl (b610.cell (o := 1) rfl) ?_
  (repeat' (first | refine Wl.guardY rfl rfl ?_ | refine Wl.fieldAddr rfl rfl ?_))
  refine Wl.load1 rfl (b910.cell (o := 1) rfl) ?_
  (repeat' (first | refine Wl.moveE (by conv => { lhs; whnf }) ?_ | refine Wl.guardY rfl rfl ?_ | refine Wl.pickFE rfl (by conv => { lhs; whnf }) ?_ | refine Wl.fieldAddr rfl rfl ?_ | (refine Wl.neq rfl rfl (fun _ => ?_) (fun _ => ?_) <;> (first | (exfalso; omega) | skip))))
  refine Wl.load1 rfl (b610.cell (o := 2) rfl) ?_
  (repeat' (first | refine Wl.guardY rfl rfl ?_ | refine Wl.fieldAddr rfl rfl ?_))
  refine Wl.load1 rfl (b910.cell (o := 2) rfl) ?_
  (repeat' (first | refine Wl.moveE (by conv => { lhs; whnf }) ?_ | refine Wl.guardY rfl rfl ?_ | refine Wl.pickFE rfl (by conv => { lhs; whnf }) ?_ | refine Wl.fieldAddr rfl rfl ?_ | (refine Wl.neq rfl rfl (fun _ => ?_) (fun _ => ?_) <;> (first | (exfalso; omega) | skip))))
  refine Wl.load1 rfl (b610.cell (o := 3) rfl) ?_
  (repeat' (first | refine Wl.guardY rfl rfl ?_ | refine Wl.fieldAddr rfl rfl ?_))
  refine Wl.load1 rfl (b910.cell (o := 3) rfl) ?_
  (repeat' (first | refine Wl.assignE (by conv => { lhs; whnf }) ?_ | refine Wl.nil ?_ | refine Wl.guardY rfl rfl ?_ | refine Wl.pickFE rfl (by conv => { lhs; whnf }) ?_ | refine Qseq.normal ?_ | refine Wc.seq ?_ | refine Wc.region ?_ | refine Wc.block ?_ | refine Wc.skip ?_ | refine Wc.condF rfl ?_ | (refine Wl.neq rfl rfl (fun _ => ?_) (fun _ => ?_) <;> (first | (exfalso; omega) | skip))))
  have hk : ∀ {w w' : World} {M : Nat → Prop}, Chg M w w' → (∀ b, M b → lab1 b ≠ none) → Keep (fun b => w1.heap.size ≤ b) w w' := fun {w w' M} c hM => c.keep fun b hb e1 e2 => by
    have := hM b e2
    cases hq : lab1 b with
    | none => exact this hq
    | some q => have := (hlo b q hq).2; omega
  refine Wc.loop (σ := Nat) (fun i => [(3, .slice a1 l.length c1), (5, .slice a2 l.length c2), (7, .slice a3 l.length c3), (13, vi i)])
    (fun i w' => i ≤ l.length ∧ TrOwn w.heap.size lab1 w' (.slice a1 l.length c1) l pv1 ∧ RdS rNd 3 (fun b => w1.heap.size ≤ b) w' (.slice a2 l.length c2) l ∧ RdS rNd 3 (fun b => w1.heap.size ≤ b) w' (.slice a3 l.length c3) l ∧ New w w') (fun i => l.length - i) 0 ⟨rfl, rfl, rfl, rfl, trivial⟩
    ⟨Nat.zero_le _, t1.new n10, r2.keep stableNd n10.keep, r3.keep stableNd n10.keep, New.trans n09 n10⟩ ?_
  clear t1 r2 r3 n09 n10 b610 b910
  rintro i G w2 ⟨hi, t1, r2, r3, n2⟩
  simp only [upds]
  (repeat' (first | refine Wl.moveE (by conv => { lhs; whnf }) ?_ | refine Wl.nil ?_ | refine Wl.lenS rfl ?_ | refine Qseq.normal ?_ | refine Wc.seq ?_ | refine Wc.region ?_ | refine Wc.block ?_ | refine Wc.skip ?_ | refine Wc.exit ?_ | refine Qseq.exit ?_ | refine Qblk.hit ?_ | refine Qloop.exit ?_ | refine Wc.condT rfl ?_ | refine Wc.condF rfl ?_ | refine Wl.lss rfl rfl (fun _ => ?_) (fun _ => ?_)))
  · obtain ⟨x, hx⟩ := get_lt l (k := i) (by omega)
    obtain ⟨pv, hpv⟩ := get_lt pv1 (k := i) (by rw [t1.len]; omega)
    have hxc := hd2 x (List.mem_of_getElem? hx)
    have ow := t1.pr i x pv hx hpv
    obtain ⟨pa, pl, pc⟩ := pv
    obtain ⟨ra, rc, re, _, _⟩ := ow.form
    simp only [slV, Value.slice.injEq] at re
    obtain ⟨rfl, rfl, rfl⟩ := re
    simp only [slV] at ow
    have hz : (l.zip pv1)[i]? = some (x, (pa, x.props.length, pc)) := by rw [List.getElem?_zip_eq_some]; exact ⟨hx, hpv⟩
    refine Wl.idxAddr (t1.arr.rd (mono_flat ndV)) rfl rfl (by omega) (by rw [Int.toNat_natCast]; exact hz) fun b o cs hl hR hat => ?_
    obtain rfl : cs = ndV (x, _) := hR
    (repeat' (refine Wl.fieldAddr rfl rfl ?_))
    refine Wl.load1 (u := .slice pa x.props.length pc) rfl (hat.get 2 rfl) ?_
    clear hat
    (repeat' (first | refine Wl.assignE (by conv => { lhs; whnf }) ?_ | refine Wl.nil ?_ | refine Qseq.normal ?_ | refine Wc.seq ?_ | refine Wc.region ?_ | refine Wc.block ?_))
    refine Wc.loop (σ := Nat × Value) (fun q => [(3, .slice a1 l.length c1), (5, .slice a2 l.length c2), (7, .slice a3 l.length c3), (13, vi i), (14, q.2), (15, vi q.1)])
      (fun q w' => q.1 ≤ 40 ∧ GrowI (fun b => lab1 b = some (i + 1)) w2 w' pa pc x.props q.2 q.1) (fun q => 40 - q.1) (0, .slice pa x.props.length pc) ⟨rfl, rfl, rfl, rfl, rfl, rfl, trivial⟩ ⟨Nat.zero_le _, GrowI.zero ow fun b e => (t1.low b _ e).2⟩ ?_
    rintro ⟨k, p⟩ G w3 ⟨hk40, g3⟩
    dsimp only at hk40 g3
    obtain ⟨la, lc, rfl⟩ := g3.len
    simp only [upds]
    (repeat' (first | refine Wl.moveE (by conv => { lhs; whnf }) ?_ | refine Wl.nil ?_ | refine Wl.guardY rfl rfl ?_ | refine Wl.lenS rfl ?_ | refine Qseq.normal ?_ | refine Wc.seq ?_ | refine Wc.region ?_ | refine Wc.block ?_ | refine Wc.skip ?_ | refine Wc.exit ?_ | refine Qseq.exit ?_ | refine Qblk.hit ?_ | refine Qloop.exit ?_ | refine Wc.condT rfl ?_ | refine Wc.condF rfl ?_ | (refine Wl.lss rfl rfl (fun _ => ?_) (fun _ => ?_) <;> (first | (exfalso; omega) | skip))))
    · refine Wl.buildF (ps := [(0, .const (vs [94]))]) (parts := [(0, vs [94])]) rfl rfl (by simp [Value.cells]) ?_
      refine Wl.growI ([94], []) g3 rfl rfl (by omega) rfl rfl fun l' w4 p' g4 => ?_
      (repeat' (first | refine Wl.moveE (by conv => { lhs; whnf }) ?_ | refine Wl.assignE (by conv => { lhs; whnf }) ?_ | refine Wl.nil ?_ | refine Qseq.normal ?_ | refine Wc.region ?_ | refine Qblk.normal ?_ | refine Wl.add rfl rfl (by omega) (by omega) ?_))
      exact Qloop.normal (k + 1, l') ⟨rfl, rfl, rfl, rfl, rfl, rfl, trivial⟩ ⟨by dsimp only; omega, g4⟩ (by dsimp only; omega)
    · have t3 := t1.same hx hpv g3.ch g3.fin
      have hc3 : Chg (fun b => lab1 b ≠ none) w2 w3 := g3.ch.mono fun b _ e => by rw [(ow.lt e).1]; simp
      have r23 := r2.keep stableNd (hk hc3 fun _ e => e)
      have r33 := r3.keep stableNd (hk hc3 fun _ e => e)
      have n3 : New w w3 := Chg.trans n2 hc3 fun b hb e => by
        cases hq : lab1 b with
        | none => exact e hq
        | some q => have := (hlo b q hq).1; omega
      refine Wl.call (Same_spec t3.rd r23 hd3) rfl ?_
      rintro _ w4 ⟨rfl, n4⟩
      (repeat' (first | refine Wl.moveE (by conv => { lhs; whnf }) ?_ | refine Wl.assignE (by conv => { lhs; whnf }) ?_ | refine Wl.nil ?_ | refine Wl.guardY rfl rfl ?_ | refine Wl.pickFE rfl (by conv => { lhs; whnf }) ?_ | refine Wl.notB rfl ?_ | refine Qseq.normal ?_ | refine Wc.region ?_ | refine Wc.skip ?_ | refine Qblk.normal ?_ | refine Wc.condF rfl ?_ | refine Wl.add rfl rfl (by omega) (by omega) ?_))
      exact Qloop.normal (i + 1) ⟨rfl, rfl, rfl, rfl, trivial⟩ ⟨by omega, t3.new n4, r23.keep stableNd n4.keep, r33.keep stableNd n4.keep, New.trans n3 n4⟩ (by omega)
  · refine Wl.call (spoil_spec t1 (by omega) fun x hx => by have := hd2 x hx; omega) rfl ?_
    rintro _ w3 ⟨rfl, c3'⟩
    have n3 : New w w3 := Chg.trans n2 c3' fun b hb e => by
      cases hq : lab1 b with
      | none => exact e hq
      | some q => have := (hlo b q hq).1; omega
    (repeat' (first | refine Wl.moveE (by conv => { lhs; whnf }) ?_ | refine Wl.nil ?_ | refine Qseq.normal ?_ | refine Wc.seq ?_ | refine Wc.region ?_))
    refine Wl.call (Same_spec (r3.keep stableNd (hk c3' fun _ e => e)) (r2.keep stableNd (hk c3' fun _ e => e)) hd3) rfl ?_
    rintro _ w4 ⟨rfl, n4⟩
    (repeat' (first | refine Wl.moveE (by conv => { lhs; whnf }) ?_ | refine Wl.guardY rfl rfl ?_))
    refine Wl.call awake_spec rfl ?_
    rintro _ w5 ⟨rfl, n5⟩
    (repeat' (first | refine Wl.assignE (by conv => { lhs; whnf }) ?_ | refine Wl.nil ?_ | refine Wl.pickTE rfl (by conv => { lhs; whnf }) ?_ | refine Qseq.normal ?_ | refine Wc.ret ?_))
    exact Qfn.ret1 rfl rfl ⟨_, rfl, rfl, New.trans (New.trans n3 n4) n5⟩
end Go.Proofs.YtlkhajheecglgaaDoor
