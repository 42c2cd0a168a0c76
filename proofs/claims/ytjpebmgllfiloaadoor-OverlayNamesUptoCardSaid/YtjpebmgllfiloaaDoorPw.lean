/-
  Walks of Path of the references, and of the law's at, value, names.
-/
import Derived.Test.YtjpebmgllfiloaaDoorPe
import Derived.Test.YtjpebmgllfiloaaDoorLz
import Derived.Test.YtjpebmgllfiloaaDoorCut
namespace Go.Proofs.YtjpebmgllfiloaaDoor
open Go Wk
open Go.RowKit (Below)
attribute [local irreducible] Go.Calls

theorem pathOf_len {t : List Nd} (ht : treeOk t = true) {i : Nat} (hi : i < t.length) : (pathS (nmsOf t i)).length ≤ 17000 := by
  have h1 := pathS_len (l := nmsOf t i) fun n hn => (nmsOf_good ht i n hn).2
  have h2 := nmsOf_len ht i
  have h3 := treeOk_len ht
  omega
set_option maxRecDepth 4000 in
theorem Path_spec {Pb : Nat → Prop} {v : Value} {t : List Nd} (ht : treeOk t = true) : ∀ (i : Nat), i < t.length → ∀ (w : World), RdS rNd 3 Pb w v t →
    Calls Tryd.prog 22 #[v, vi i] w (Ret fun r w' => r = vs (pathS (nmsOf t i)) ∧ New w w') := by
  intro i
  induction i using Nat.strongRecOn with
  | ind i ih =>
    intro hi w h
    obtain ⟨a, cap, rfl, hc1, hc2⟩ := h.form
    refine calls_of_Wc Tryd.func22 rfl Tryd.ntmps22 rfl ?_
    (repeat' (first | refine Wl.moveE (by conv => { lhs; whnf }) ?_ | refine Wl.assignE (by conv => { lhs; whnf }) ?_ | refine Wl.nil ?_ | refine Qseq.normal ?_ | refine Wc.seq ?_ | refine Wc.region ?_ | refine Wc.skip ?_ | refine Wc.ret ?_ | refine Qseq.ret ?_ | refine Wc.condT rfl ?_ | refine Wc.condF rfl ?_ | refine Wl.eql rfl rfl (fun _ => ?_) (fun _ => ?_)))
    · obtain rfl : i = 0 := by omega
      exact Qfn.ret1 rfl rfl ⟨_, rfl, rfl, Chg.refl _ _⟩
    · obtain ⟨x, hx⟩ := get_lt t hi
      have hi0 : i ≠ 0 := by omega
      have hk := (treeOk_nd ht hx).kid hi0
      have hxl := nameOk_len hk.2.2
      obtain ⟨p, hp⟩ := Int.eq_ofNat_of_zero_le hk.1
      have hpl := pathOf_len ht (i := p) (by omega)
      have hst := pathS_step (l := nmsOf t p) (n := x.name) fun m hm => (nmsOf_good ht p m hm).1
      rw [nmsOf_step ht hx hi0, hp, Int.toNat_natCast, hst]
      refine Wl.idxAddr h rfl rfl (by omega) hx fun b o cs hl hR hat => ?_
      obtain ⟨pv, rfl, hpr⟩ := hR
      (repeat' (refine Wl.fieldAddr rfl rfl ?_))
      refine Wl.load1 rfl (hat.get 0 rfl) ?_
      refine Wl.call (ih p (by omega) (by omega) w h) (by show [_, vi x.parent] = [_, vi p]; rw [hp]; rfl) ?_
      rintro _ w1 ⟨rfl, n1⟩
      have h1 := h.keep stableNd n1.keep
      (repeat' (first | refine Wl.moveE (by conv => { lhs; whnf }) ?_ | refine Wl.assignE (by conv => { lhs; whnf }) ?_ | refine Wl.nil ?_ | refine Qseq.normal ?_ | refine Wc.seq ?_ | refine Wc.region ?_ | refine Wc.skip ?_ | refine Wc.condT rfl ?_ | refine Wc.condF rfl ?_ | refine Wl.seql rfl rfl (fun _ => ?_) (fun _ => ?_)))
      · rw [if_pos (by assumption)]
        refine Wl.sadd rfl rfl (by simp) ?_
        (repeat' (refine Wl.moveE (by conv => { lhs; whnf }) ?_))
        refine Wl.idxAddr h1 rfl rfl (by omega) hx fun b o cs hl hR hat => ?_
        obtain ⟨pv, rfl, hpr⟩ := hR
        (repeat' (refine Wl.fieldAddr rfl rfl ?_))
        refine Wl.load1 rfl (hat.get 1 rfl) ?_
        refine Wl.sadd rfl rfl (by simp; omega) ?_
        (repeat' (first | refine Wl.assignE (by conv => { lhs; whnf }) ?_ | refine Wl.nil ?_ | refine Qseq.normal ?_ | refine Wc.ret ?_))
        exact Qfn.ret1 rfl rfl ⟨_, rfl, rfl, n1⟩
      · rw [if_neg (by assumption)]
        refine Wl.sadd rfl rfl (by simp; omega) ?_
        (repeat' (refine Wl.moveE (by conv => { lhs; whnf }) ?_))
        refine Wl.idxAddr h1 rfl rfl (by omega) hx fun b o cs hl hR hat => ?_
        obtain ⟨pv, rfl, hpr⟩ := hR
        (repeat' (refine Wl.fieldAddr rfl rfl ?_))
        refine Wl.load1 rfl (hat.get 1 rfl) ?_
        refine Wl.sadd rfl rfl (by simp; omega) ?_
        (repeat' (first | refine Wl.assignE (by conv => { lhs; whnf }) ?_ | refine Wl.nil ?_ | refine Qseq.normal ?_ | refine Wc.ret ?_))
        exact Qfn.ret1 rfl rfl ⟨_, rfl, rfl, n1⟩
theorem at_spec {Pb : Nat → Prop} {w : World} {v : Value} {t : List Nd} {s : List UInt8} (ht : treeOk t = true) (h : RdS rNd 3 Pb w v t) :
    Calls Tryd.prog 23 #[v, vs s] w (Ret fun r w' => (∃ k : Int, r = vi k ∧ ((k = -1 ∧ ∀ j, j < t.length → pathS (nmsOf t j) ≠ s) ∨ ∃ j : Nat, k = j ∧ j < t.length ∧ pathS (nmsOf t j) = s)) ∧ New w w') := by
  obtain ⟨a, cap, rfl, hc1, hc2⟩ := h.form
  have htl := treeOk_len ht
  refine calls_of_Wc Tryd.func23 rfl Tryd.ntmps23 rfl ?_
  (repeat' (first | refine Wl.assignE (by conv => { lhs; whnf }) ?_ | refine Wl.nil ?_ | refine Qseq.normal ?_ | refine Wc.seq ?_ | refine Wc.region ?_ | refine Wc.block ?_))
  refine Wc.loop (σ := Nat) (fun i => [(0, .slice a t.length cap), (1, vs s), (5, vi i)]) (fun i w' => i ≤ t.length ∧ (∀ j, j < i → pathS (nmsOf t j) ≠ s) ∧ New w w') (fun i => t.length - i) 0 ⟨rfl, rfl, rfl, trivial⟩ ⟨Nat.zero_le _, fun j hj => by omega, Chg.refl _ _⟩ ?_
  rintro i G w1 ⟨hi, hall, n1⟩
  simp only [upds]
  (repeat' (first | refine Wl.moveE (by conv => { lhs; whnf }) ?_ | refine Wl.assignE (by conv => { lhs; whnf }) ?_ | refine Wl.nil ?_ | refine Wl.lenS rfl ?_ | refine Qseq.normal ?_ | refine Wc.seq ?_ | refine Wc.region ?_ | refine Wc.block ?_ | refine Wc.skip ?_ | refine Wc.exit ?_ | refine Wc.ret ?_ | refine Qseq.exit ?_ | refine Qblk.hit ?_ | refine Qloop.exit ?_ | refine Wc.condT rfl ?_ | refine Wc.condF rfl ?_ | refine Wl.lss rfl rfl (fun _ => ?_) (fun _ => ?_)))
  · refine Wl.call (Path_spec ht i (by omega) w1 (h.keep stableNd n1.keep)) rfl ?_
    rintro _ w2 ⟨rfl, n2⟩
    (repeat' (first | refine Wl.moveE (by conv => { lhs; whnf }) ?_ | refine Wl.assignE (by conv => { lhs; whnf }) ?_ | refine Wl.nil ?_ | refine Qseq.normal ?_ | refine Wc.seq ?_ | refine Wc.region ?_ | refine Wc.skip ?_ | refine Wc.ret ?_ | refine Qseq.ret ?_ | refine Qblk.normal ?_ | refine Qblk.ret ?_ | refine Qloop.ret ?_ | refine Wc.condT rfl ?_ | refine Wc.condF rfl ?_ | refine Wl.add rfl rfl (by omega) (by omega) ?_ | refine Wl.seql rfl rfl (fun _ => ?_) (fun _ => ?_)))
    · exact Qfn.ret1 rfl rfl ⟨_, rfl, ⟨_, rfl, .inr ⟨i, rfl, by omega, by assumption⟩⟩, New.trans n1 n2⟩
    · refine Qloop.normal (i + 1) ⟨rfl, rfl, rfl, trivial⟩ ⟨by omega, fun j hj => ?_, New.trans n1 n2⟩ (by omega)
      rcases Nat.lt_succ_iff_lt_or_eq.1 hj with h | rfl
      · exact hall j h
      · assumption
  · exact Qfn.ret1 rfl rfl ⟨_, rfl, ⟨_, rfl, .inl ⟨rfl, fun j hj => hall j (by omega)⟩⟩, n1⟩
def valV (o : Option (List UInt8)) : Value := match o with | some v => .tuple #[vs v, .bool true] | none => .tuple #[vs [], .bool false]
theorem val_take {l : List Pr} {nm : Nm} {i : Nat} (h : ∀ p ∈ l.take i, p.1 ≠ nm) : val l nm = val (l.drop i) nm := by
  unfold val
  conv => lhs; rw [← List.take_append_drop i l]
  rw [List.find?_append, List.find?_eq_none.2 (fun x hx => by simpa using h x hx), Option.none_or]
theorem value_spec {Pb : Nat → Prop} {w : World} {up : Int} {nm s : List UInt8} {pv : Value} {l : List Pr} (h : RdS rPr 2 Pb w pv l) :
    Calls Tryd.prog 24 #[.agg #[vi up, vs nm, pv], vs s] w (Ret fun r w' => r = valV (val l s) ∧ New w w') := by
  obtain ⟨a, cap, rfl, hc1, hc2⟩ := h.form
  simp only [maxLen] at hc2
  refine calls_of_Wc Tryd.func24 rfl Tryd.ntmps24 rfl ?_
  (repeat' (first | refine Wc.seq ?_ | refine Wc.region ?_))
  refine Wl.box rfl fun w1 b1 n1 s1 => ?_
  replace b1 : Bk w1 w.heap.size 37 [vi up, vs nm, .slice a l.length cap] := b1
  (repeat' (first | refine Wl.assignE (by conv => { lhs; whnf }) ?_ | refine Wl.nil ?_ | refine Qseq.normal ?_ | refine Wc.seq ?_ | refine Wc.region ?_ | refine Wc.block ?_))
  refine Wc.loop (σ := Nat) (fun i => [(1, vs s), (2, ptrV w.heap.size), (6, vi i)]) (fun i w' => i ≤ l.length ∧ (∀ p ∈ l.take i, p.1 ≠ s) ∧ New w1 w') (fun i => l.length - i) 0 ⟨rfl, rfl, rfl, trivial⟩ ⟨Nat.zero_le _, by simp, Chg.refl _ _⟩ ?_
  rintro i G w2 ⟨hi, hall, n2⟩
  have b2 := b1.chg n2 id
  have n02 := New.trans n1 n2
  have h2 := h.keep (stable_flat pC) n02.keep
  simp only [upds]
  (repeat' (first | refine Wl.moveE (by conv => { lhs; whnf }) ?_ | refine Wc.seq ?_ | refine Wc.region ?_ | refine Wl.fieldAddr rfl rfl ?_))
  refine Wl.load1 rfl (b2.cell (o := 2) rfl) ?_
  (repeat' (first | refine Wl.assignE (by conv => { lhs; whnf }) ?_ | refine Wl.nil ?_ | refine Wl.lenS rfl ?_ | refine Qseq.normal ?_ | refine Wc.seq ?_ | refine Wc.region ?_ | refine Wc.block ?_ | refine Wc.skip ?_ | refine Wc.exit ?_ | refine Wc.ret ?_ | refine Qseq.exit ?_ | refine Qblk.hit ?_ | refine Qloop.exit ?_ | refine Wc.condT rfl ?_ | refine Wc.condF rfl ?_ | refine Wl.fieldAddr rfl rfl ?_ | refine Wl.lss rfl rfl (fun _ => ?_) (fun _ => ?_)))
  · obtain ⟨p, hp⟩ := get_lt l (k := i) (by omega)
    refine Wl.load1 rfl (b2.cell (o := 2) rfl) ?_
    (repeat' (refine Wl.moveE (by conv => { lhs; whnf }) ?_))
    refine Wl.idxAddr h2 rfl rfl (by omega) hp fun b o cs hl hR hat => ?_
    obtain rfl : cs = pC p := hR
    (repeat' (refine Wl.fieldAddr rfl rfl ?_))
    refine Wl.load1 rfl (hat.get 0 rfl) ?_
    (repeat' (first | refine Wl.moveE (by conv => { lhs; whnf }) ?_ | refine Wl.assignE (by conv => { lhs; whnf }) ?_ | refine Wl.nil ?_ | refine Qseq.normal ?_ | refine Wc.seq ?_ | refine Wc.region ?_ | refine Wc.skip ?_ | refine Qblk.normal ?_ | refine Wc.condT rfl ?_ | refine Wc.condF rfl ?_ | refine Wl.fieldAddr rfl rfl ?_ | refine Wl.add rfl rfl (by omega) (by omega) ?_ | refine Wl.seql rfl rfl (fun _ => ?_) (fun _ => ?_)))
    · refine Wl.load1 rfl (b2.cell (o := 2) rfl) ?_
      (repeat' (refine Wl.moveE (by conv => { lhs; whnf }) ?_))
      refine Wl.idxAddr h2 rfl rfl (by omega) hp fun b o cs hl hR hat => ?_
      obtain rfl : cs = pC p := hR
      (repeat' (refine Wl.fieldAddr rfl rfl ?_))
      refine Wl.load1 rfl (hat.get 1 rfl) ?_
      (repeat' (first | refine Wl.assignE (by conv => { lhs; whnf }) ?_ | refine Wl.nil ?_ | refine Qseq.normal ?_ | refine Wc.ret ?_ | refine Qseq.ret ?_ | refine Qblk.ret ?_ | refine Qloop.ret ?_))
      refine Qfn.ret2 rfl rfl rfl ⟨_, rfl, ?_, n02⟩
      have e : p.1 = s := by assumption
      rw [val_take hall, drop_cons hp]
      unfold val
      rw [List.find?_cons, decide_eq_true e]; rfl
    · refine Qloop.normal (i + 1) ⟨rfl, rfl, rfl, trivial⟩ ⟨by omega, fun q hq => ?_, n2⟩ (by omega)
      have e : p.1 ≠ s := by assumption
      rw [take_snoc hp] at hq
      rcases List.mem_append.1 hq with hq | hq
      · exact hall q hq
      · simp at hq; subst hq; exact e
  · have e : i = l.length := by omega
    subst e
    refine Qfn.ret2 rfl rfl rfl ⟨_, rfl, ?_, n02⟩
    rw [val_take hall, List.drop_length]; rfl
def fullP (p : Pc) (i : Nat) : List UInt8 := if p.target = [47] then pathS (nmsOf p.nodes i) else if pathS (nmsOf p.nodes i) = [47] then p.target else p.target ++ pathS (nmsOf p.nodes i)
def hasV (p : Pc) (prop : List UInt8) (i : Nat) : Bool := match p.nodes[i]? with | some x => (val x.props prop).isSome | none => false
def namesB (p : Pc) (path prop : List UInt8) : Bool := (decide (path = p.target) && p.drop.contains prop) || (List.range p.nodes.length).any fun i => decide (fullP p i = path) && hasV p prop i
set_option maxHeartbeats 1000000 in
set_option maxRecDepth 4000 in
theorem names_spec {Pb : Nat → Prop} {w : World} {nv dv : Value} {p : Pc} {path prop : List UInt8} (ht : treeOk p.nodes = true) (hn : RdS rNd 3 Pb w nv p.nodes) (hd : RdS (one vs) 1 Pb w dv p.drop) (hs : p.target.length ≤ 2000000) :
    Calls Tryd.prog 25 #[.agg #[vs p.target, nv, dv], vs path, vs prop] w (Ret fun r w' => r = .bool (namesB p path prop) ∧ New w w') := by
  obtain ⟨na, nc, rfl, hnc1, hnc2⟩ := hn.form
  obtain ⟨da, dc, rfl, hdc1, hdc2⟩ := hd.form
  simp only [maxLen] at hdc2
  have htl := treeOk_len ht
  have hnm : namesB p path prop = ((decide (path = p.target) && p.drop.contains prop) || (List.range p.nodes.length).any fun i => decide (fullP p i = path) && hasV p prop i) := rfl
  refine calls_of_Wc Tryd.func25 rfl Tryd.ntmps25 rfl ?_
  refine Wc.seq ?_
  refine Wc.region ?_
  refine Wl.box rfl fun w1 b1 n1 s1 => ?_
  replace b1 : Bk w1 w.heap.size 25 [vs p.target, .slice na p.nodes.length nc, .slice da p.drop.length dc] := b1
  refine Wl.assignE (v := .bool false) rfl ?_
  refine Wl.nil ?_
  refine Qseq.normal ?_
  refine Wc.cutR (fun F w2 => agrees F [(1, vs path), (2, vs prop), (3, ptrV w.heap.size)] ∧ New w1 w2 ∧ (decide (path = p.target) && p.drop.contains prop) = false) ?_ ?_
  · (repeat' (first | refine Wl.moveE (by conv => { lhs; whnf }) ?_ | refine Wc.seq ?_ | refine Wc.region ?_ | refine Wl.fieldAddr rfl rfl ?_))
    refine Wl.load1 rfl (b1.cell (o := 0) rfl) ?_
    (repeat' (first | refine Wl.assignE (by conv => { lhs; whnf }) ?_ | refine Wl.nil ?_ | refine Qseq.normal ?_ | refine Wc.seq ?_ | refine Wc.region ?_ | refine Wc.block ?_ | refine Wc.skip ?_ | refine Wc.condT rfl ?_ | refine Wc.condF rfl ?_ | refine Wl.seql rfl rfl (fun _ => ?_) (fun _ => ?_)))
    · have hpt : path = p.target := by assumption
      refine Wc.loop (σ := Nat) (fun i => [(1, vs path), (2, vs prop), (3, ptrV w.heap.size), (7, vi i)]) (fun i w' => i ≤ p.drop.length ∧ (∀ x ∈ p.drop.take i, x ≠ prop) ∧ New w1 w') (fun i => p.drop.length - i) 0 ⟨rfl, rfl, rfl, rfl, trivial⟩ ⟨Nat.zero_le _, by simp, Chg.refl _ _⟩ ?_
      rintro i G w2 ⟨hi, hall, n2⟩
      have b2 := b1.chg n2 id
      simp only [upds]
      (repeat' (first | refine Wl.moveE (by conv => { lhs; whnf }) ?_ | refine Wc.seq ?_ | refine Wc.region ?_ | refine Wl.fieldAddr rfl rfl ?_))
      refine Wl.load1 rfl (b2.cell (o := 2) rfl) ?_
      (repeat' (first | refine Wl.nil ?_ | refine Wl.lenS rfl ?_ | refine Qseq.normal ?_ | refine Wc.seq ?_ | refine Wc.region ?_ | refine Wc.block ?_ | refine Wc.skip ?_ | refine Wc.exit ?_ | refine Qseq.exit ?_ | refine Qblk.hit ?_ | refine Qloop.exit ?_ | refine Wc.condT rfl ?_ | refine Wc.condF rfl ?_ | refine Wl.fieldAddr rfl rfl ?_ | refine Wl.lss rfl rfl (fun _ => ?_) (fun _ => ?_)))
      · obtain ⟨x, hx⟩ := get_lt p.drop (k := i) (by omega)
        refine Wl.load1 rfl (b2.cell (o := 2) rfl) ?_
        (repeat' (refine Wl.moveE (by conv => { lhs; whnf }) ?_))
        refine Wl.idxAddrV (hd.keep (stable_one _) (New.trans n1 n2).keep) rfl rfl (by omega) hx fun b o hc => ?_
        refine Wl.load1 rfl hc ?_
        (repeat' (first | refine Wl.moveE (by conv => { lhs; whnf }) ?_ | refine Wl.assignE (by conv => { lhs; whnf }) ?_ | refine Wl.nil ?_ | refine Qseq.normal ?_ | refine Wc.seq ?_ | refine Wc.region ?_ | refine Wc.skip ?_ | refine Wc.ret ?_ | refine Qseq.ret ?_ | refine Qblk.normal ?_ | refine Qblk.ret ?_ | refine Qloop.ret ?_ | refine Wc.condT rfl ?_ | refine Wc.condF rfl ?_ | refine Qm.ret ?_ | refine Wl.add rfl rfl (by omega) (by omega) ?_ | refine Wl.seql rfl rfl (fun _ => ?_) (fun _ => ?_)))
        · have e : x = prop := by assumption
          refine Qfn.ret1 rfl rfl ⟨_, rfl, ?_, New.trans n1 n2⟩
          rw [hnm, decide_eq_true hpt, List.contains_iff_mem.2 (e ▸ List.mem_of_getElem? hx)]; rfl
        · have e : x ≠ prop := by assumption
          refine Qloop.normal (i + 1) ⟨rfl, rfl, rfl, rfl, trivial⟩ ⟨by omega, fun y hy => ?_, n2⟩ (by omega)
          rw [take_snoc hx] at hy
          rcases List.mem_append.1 hy with hy | hy
          · exact hall y hy
          · simp at hy; subst hy; exact e
      · have e : i = p.drop.length := by omega
        subst e
        rw [List.take_length] at hall
        refine Qm.normal ⟨⟨rfl, rfl, rfl, trivial⟩, n2, ?_⟩
        have : p.drop.contains prop = false := by
          rw [Bool.eq_false_iff]; intro hc; exact hall prop (List.contains_iff_mem.1 hc) rfl
        rw [this, Bool.and_false]
    · have hpt : path ≠ p.target := by assumption
      refine Qm.normal ⟨⟨rfl, rfl, rfl, trivial⟩, Chg.refl _ _, ?_⟩
      rw [decide_eq_false hpt, Bool.false_and]
  · rintro F2 w2 ⟨hag, n2, hfirst⟩
    rw [← upds_of_agrees hag]
    simp only [upds]
    rw [hfirst, Bool.false_or] at hnm
    (repeat' (first | refine Wl.assignE (by conv => { lhs; whnf }) ?_ | refine Wl.nil ?_ | refine Qseq.normal ?_ | refine Wc.seq ?_ | refine Wc.region ?_ | refine Wc.block ?_))
    refine Wc.loop (σ := Nat) (fun i => [(1, vs path), (2, vs prop), (3, ptrV w.heap.size), (8, vi i)]) (fun i w' => i ≤ p.nodes.length ∧ (∀ j, j < i → (decide (fullP p j = path) && hasV p prop j) = false) ∧ New w1 w') (fun i => p.nodes.length - i) 0 ⟨rfl, rfl, rfl, rfl, trivial⟩ ⟨Nat.zero_le _, fun j hj => by omega, n2⟩ ?_
    rintro i G w3 ⟨hi, hall, n3⟩
    have b3 := b1.chg n3 id
    simp only [upds]
    (repeat' (first | refine Wl.moveE (by conv => { lhs; whnf }) ?_ | refine Wc.seq ?_ | refine Wc.region ?_ | refine Wl.fieldAddr rfl rfl ?_))
    refine Wl.load1 rfl (b3.cell (o := 1) rfl) ?_
    (repeat' (first | refine Wl.assignE (by conv => { lhs; whnf }) ?_ | refine Wl.nil ?_ | refine Wl.lenS rfl ?_ | refine Qseq.normal ?_ | refine Wc.seq ?_ | refine Wc.region ?_ | refine Wc.block ?_ | refine Wc.skip ?_ | refine Wc.exit ?_ | refine Wc.ret ?_ | refine Qseq.exit ?_ | refine Qblk.hit ?_ | refine Qloop.exit ?_ | refine Wc.condT rfl ?_ | refine Wc.condF rfl ?_ | refine Wl.fieldAddr rfl rfl ?_ | refine Wl.lss rfl rfl (fun _ => ?_) (fun _ => ?_)))
    · obtain ⟨x, hx⟩ := get_lt p.nodes (k := i) (by omega)
      have hpl := pathOf_len ht (i := i) (by omega)
      refine Wl.load1 rfl (b3.cell (o := 1) rfl) ?_
      (repeat' (refine Wl.moveE (by conv => { lhs; whnf }) ?_))
      refine Wl.call (Path_spec ht i (by omega) w3 (hn.keep stableNd (New.trans n1 n3).keep)) rfl ?_
      rintro _ w4 ⟨rfl, n4⟩
      replace n4 := New.trans n3 n4
      have b4 := b1.chg n4 id
      (repeat' (first | refine Wl.assignE (by conv => { lhs; whnf }) ?_ | refine Wl.nil ?_ | refine Qseq.normal ?_ | refine Wc.seq ?_ | refine Wc.region ?_ | refine Wl.fieldAddr rfl rfl ?_))
      refine Wl.load1 rfl (b4.cell (o := 0) rfl) ?_
      (repeat' (refine Wl.moveE (by conv => { lhs; whnf }) ?_))
      refine Wl.sadd rfl rfl (by omega) ?_
      refine Wl.assignE rfl ?_
      refine Wl.nil ?_
      refine Qseq.normal ?_
      refine Wc.cutR (fun F w5 => agrees F [(1, vs path), (2, vs prop), (3, ptrV w.heap.size), (8, vi i), (10, vs (fullP p i))] ∧ w5 = w4) ?_ ?_
      · (repeat' (first | refine Wc.seq ?_ | refine Wc.region ?_ | refine Wl.fieldAddr rfl rfl ?_))
        refine Wl.load1 rfl (b4.cell (o := 0) rfl) ?_
        have hfp : fullP p i = if p.target = [47] then pathS (nmsOf p.nodes i) else if pathS (nmsOf p.nodes i) = [47] then p.target else p.target ++ pathS (nmsOf p.nodes i) := rfl
        (repeat' (first | refine Wl.moveE (by conv => { lhs; whnf }) ?_ | refine Wl.assignE (by conv => { lhs; whnf }) ?_ | refine Wl.nil ?_ | refine Qseq.normal ?_ | refine Wc.seq ?_ | refine Wc.region ?_ | refine Wc.skip ?_ | refine Wc.condT rfl ?_ | refine Wc.condF rfl ?_ | refine Wl.fieldAddr rfl rfl ?_ | refine Wl.seql rfl rfl (fun _ => ?_) (fun _ => ?_)))
        · rw [if_pos (by assumption)] at hfp
          exact Qm.normal ⟨⟨rfl, rfl, rfl, rfl, by rw [hfp]; rfl, trivial⟩, rfl⟩
        · rw [if_neg (by assumption), if_pos (by assumption)] at hfp
          refine Wl.load1 rfl (b4.cell (o := 0) rfl) ?_
          (repeat' (first | refine Wl.assignE (by conv => { lhs; whnf }) ?_ | refine Wl.nil ?_))
          exact Qm.normal ⟨⟨rfl, rfl, rfl, rfl, by rw [hfp]; rfl, trivial⟩, rfl⟩
        · rw [if_neg (by assumption), if_neg (by assumption)] at hfp
          exact Qm.normal ⟨⟨rfl, rfl, rfl, rfl, by rw [hfp]; rfl, trivial⟩, rfl⟩
      · rintro F5 w5 ⟨hag5, rfl⟩
        rw [← upds_of_agrees hag5]
        simp only [upds]
        generalize hfp : fullP p i = fp
        (repeat' (first | refine Wc.seq ?_ | refine Wc.region ?_ | refine Wl.fieldAddr rfl rfl ?_))
        refine Wl.load1 rfl (b4.cell (o := 1) rfl) ?_
        (repeat' (refine Wl.moveE (by conv => { lhs; whnf }) ?_))
        refine Wl.idxAddr (hn.keep stableNd (New.trans n1 n4).keep) rfl rfl (by omega) hx fun b o cs hl hR hat => ?_
        obtain ⟨xpv, rfl, hxpr⟩ := hR
        refine Wl.loadAt hat rfl rfl ?_
        (repeat' (refine Wl.moveE (by conv => { lhs; whnf }) ?_))
        refine Wl.call (value_spec hxpr) rfl ?_
        rintro _ w6 ⟨rfl, n6⟩
        replace n6 := New.trans n4 n6
        have hv : hasV p prop i = (val x.props prop).isSome := by unfold hasV; rw [hx]
        cases hval : val x.props prop with
        | none =>
          rw [hval] at hv
          (repeat' (first | refine Wl.moveE (by conv => { lhs; whnf }) ?_ | refine Wl.assignE (by conv => { lhs; whnf }) ?_ | refine Wl.nil ?_ | refine Wl.extract rfl rfl ?_ | refine Wl.guardY rfl rfl ?_ | refine Wl.guardN rfl rfl ?_ | refine Wl.pickTE rfl (by conv => { lhs; whnf }) ?_ | refine Wl.pickFE rfl (by conv => { lhs; whnf }) ?_ | refine Qseq.normal ?_ | refine Wc.seq ?_ | refine Wc.region ?_ | refine Wc.skip ?_ | refine Qblk.normal ?_ | refine Wc.condF rfl ?_ | refine Wl.add rfl rfl (by omega) (by omega) ?_ | refine Wl.seql rfl rfl (fun _ => ?_) (fun _ => ?_)))
          all_goals
            refine Qloop.normal (i + 1) ⟨rfl, rfl, rfl, rfl, trivial⟩ ⟨by omega, fun j hj => ?_, n6⟩ (by omega)
            rcases Nat.lt_succ_iff_lt_or_eq.1 hj with h | rfl
            · exact hall j h
            · rw [hv]; simp
        | some u =>
          rw [hval] at hv
          (repeat' (first | refine Wl.moveE (by conv => { lhs; whnf }) ?_ | refine Wl.assignE (by conv => { lhs; whnf }) ?_ | refine Wl.nil ?_ | refine Wl.extract rfl rfl ?_ | refine Wl.guardY rfl rfl ?_ | refine Wl.guardN rfl rfl ?_ | refine Wl.pickTE rfl (by conv => { lhs; whnf }) ?_ | refine Wl.pickFE rfl (by conv => { lhs; whnf }) ?_ | refine Qseq.normal ?_ | refine Wc.seq ?_ | refine Wc.region ?_ | refine Wc.skip ?_ | refine Wc.ret ?_ | refine Qseq.ret ?_ | refine Qblk.normal ?_ | refine Qblk.ret ?_ | refine Qloop.ret ?_ | refine Wc.condT rfl ?_ | refine Wc.condF rfl ?_ | refine Wl.add rfl rfl (by omega) (by omega) ?_ | refine Wl.seql rfl rfl (fun _ => ?_) (fun _ => ?_)))
          · refine Qfn.ret1 rfl rfl ⟨_, rfl, ?_, New.trans n1 n6⟩
            show Value.bool true = Value.bool _
            rw [hnm, List.any_eq_true.2 ⟨i, List.mem_range.2 (List.getElem?_eq_some_iff.1 hx).1, by rw [hv, hfp, decide_eq_true (by assumption)]; rfl⟩]
          · refine Qloop.normal (i + 1) ⟨rfl, rfl, rfl, rfl, trivial⟩ ⟨by omega, fun j hj => ?_, n6⟩ (by omega)
            rcases Nat.lt_succ_iff_lt_or_eq.1 hj with h | rfl
            · exact hall j h
            · rw [hfp, decide_eq_false (by assumption), Bool.false_and]
    · have e : i = p.nodes.length := by omega
      subst e
      refine Qfn.ret1 rfl rfl ⟨_, rfl, ?_, New.trans n1 n3⟩
      show Value.bool false = Value.bool _
      rw [hnm, List.any_eq_false.2 fun j hj => by rw [hall j (List.mem_range.1 hj)]; simp]
end Go.Proofs.YtjpebmgllfiloaaDoor
