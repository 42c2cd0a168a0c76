/-
  Texts of this claim, one behind the other: Qo, Bulk, Opn, Ub, Uc, Ud, Ue, Bd, Uf.
-/
import Derived.Test.YtjpebmgllfiloaaDoorZe
import Derived.Test.YtjpebmgllfiloaaDoorRows
import Derived.ChangeSame
namespace Go.Proofs.YtjpebmgllfiloaaDoor
open Go Wk
open Go.RowKit (Below)
attribute [local irreducible] Go.Calls

section
variable {P : Program} {n : Nat} {ds : List Deferred} {Q : Po} {F : Fr} {ops : List Oper} {C : World → Prop} {w : World}
theorem Wg.qh {f q : Nat} {r : List Nat} {o : Oper} (h : nextQ ops.toArray (q :: r) = some q) (ho : ops[q]? = some o) (hl : out q (q :: r) = r) (k : Wq P n ds C (fun F' => Wg P n ds C Q ops f r F' w) ops [o] F) : Wg P n ds C Q ops (f + 1) (q :: r) F w :=
  Wg.quiet h ho hl k
theorem Wg.oneH {f j : Nat} {r : List Nat} {o : Oper} (h : nextQ ops.toArray (j :: r) = none) (hr : (j :: r).filter (availB ops.toArray (j :: r)) = [j]) (ho : ops[j]? = some o) (hjl : Nat.beq (j + 1) ops.length = false) (hl : out j (j :: r) = r)
    (k : Wl P n ds (fun e F' w' => e = .normal ∧ C w' ∧ Wg P n ds C Q ops f r F' w') ops [o] F w) : Wg P n ds C Q ops (f + 1) (j :: r) F w := Wg.one h hr ho hjl hl k
theorem Wg.frame {f : Nat} {l : List Nat} (S : List (Nat × Value)) (h : agrees F S) (k : ∀ G, Wg P n ds C Q ops f l (upds G S) w) : Wg P n ds C Q ops f l F w := by
  have := k F; rwa [upds_of_agrees h] at this
end
/-- Small lists, short texts. -/
structure Bd (t : List Nd) : Prop where
  len : t.length ≤ 1500000
  pr : ∀ x ∈ t, x.props.length ≤ 1500000
  tx : ∀ x ∈ t, ∀ p ∈ x.props, p.1.length ≤ 1500000 ∧ p.2.length ≤ 1500000
theorem Bd.short {t : List Nd} (h : Bd t) : Short t := fun x hx p hp => by have := h.tx x hx p hp; simp only [maxLen]; omega
theorem TrL.setProps {lo : Nat} {lab : Lb} {w w' : World} {a : Option Addr} {cap : Nat} {t : List Nd} {pvs : List Sl} (h : TrL lo lab w a cap t pvs) {i : Nat} {x : Nd} {pv : Sl} {ps : List Pr} (hx : t[i]? = some x) (hp : pvs[i]? = some pv)
    (c : Chg (fun b => lab b = some (i + 1)) w w') (o : LentP (fun b => lab b = some (i + 1)) w' pv ps) : TrL lo lab w' a cap (t.set i { x with props := ps }) pvs := by
  have hz : (t.zip pvs)[i]? = some (x, pv) := List.getElem?_zip_eq_some.2 ⟨hx, hp⟩
  have hzi := (List.getElem?_eq_some_iff.1 hz).1
  refine ⟨by simpa using h.len, fun b q e => ⟨(h.low b q e).1, Nat.lt_of_lt_of_le (h.low b q e).2 c.size⟩, ?_, fun j y qv hy hq => ?_⟩
  · have ha := h.arr.chg (plain_flat ndV) c fun b e1 e2 => by rw [(h.arr.lt e1).1] at e2; cases e2
    rw [List.length_set]
    refine own_map ha ?_
    rw [List.map_append, List.map_append]
    congr 1
    apply List.ext_getElem?
    intro j
    rw [List.getElem?_map, List.getElem?_map]
    have : (t.set i { x with props := ps }).zip pvs = (t.zip pvs).set i ({ x with props := ps }, pv) := by rw [zip_set2, list_set_self hp]
    rw [this, List.getElem?_set]
    simp only [hzi, if_true]
    split
    · rename_i e
      subst e
      rw [hz]
      rfl
    · rfl
  · rw [List.getElem?_set] at hy
    split at hy
    · rename_i e
      subst e
      rw [if_pos (List.getElem?_eq_some_iff.1 hx).1] at hy
      cases hy
      rw [hp] at hq
      cases hq
      exact o
    · rename_i e
      obtain ⟨pa, pc, e1, ho⟩ := h.pr j y qv hy hq
      exact ⟨pa, pc, e1, ho.chg plainPr c fun b e1 e2 => by have := (ho.lt e1).1; rw [e2] at this; cases this; exact e rfl⟩
theorem PcL.chg {lo : Nat} {w w' : World} {r : Value} {p : Pc} {lab : Lb} {a : Option Addr} {cap : Nat} {pvs : List Sl} {da : Option Addr} {dc : Nat} {M : Nat → Prop} (h : PcL lo w r p lab a cap pvs da dc) (c : Chg M w w') (h1 : ∀ b, b < w.heap.size → M b → lab b = none) (h2 : ∀ b, (Value.slice da (p.drop.length + 1) dc).ownBlock = some b → ¬ M b) : PcL lo w' r p lab a cap pvs da dc :=
  ⟨h.eq, h.tl.chg c h1, h.dl.chg (plain_one _) c h2⟩
theorem PcL.rdn {lo : Nat} {w : World} {r : Value} {p : Pc} {lab : Lb} {a : Option Addr} {cap : Nat} {pvs : List Sl} {da : Option Addr} {dc : Nat} (h : PcL lo w r p lab a cap pvs da dc) : RdS rNd 3 (fun b => lo ≤ b) w (.slice a p.nodes.length cap) p.nodes := h.tl.own.rd
theorem PcL.rdd {lo : Nat} {w : World} {r : Value} {p : Pc} {lab : Lb} {a : Option Addr} {cap : Nat} {pvs : List Sl} {da : Option Addr} {dc : Nat} (h : PcL lo w r p lab a cap pvs da dc) : ∃ Pb, RdS (one vs) 1 Pb w (.slice da p.drop.length dc) p.drop := ⟨_, (own_short h.dl rfl).rd (mono_one _)⟩
abbrev Any : Nat → Prop := fun _ => True
theorem anyN {w : World} {v : Value} {t : List Nd} {Pb : Nat → Prop} (h : RdS rNd 3 Pb w v t) : RdS rNd 3 Any w v t := h.mono monoNd fun _ _ _ => trivial
theorem anyS {w : World} {v : Value} {t : List (List UInt8)} {Pb : Nat → Prop} (h : RdS (one vs) 1 Pb w v t) : RdS (one vs) 1 Any w v t := h.mono (mono_one _) fun _ _ _ => trivial
theorem layM_small {t : List Nd} {p : Pc} : Short (layM t p).1 ∧ (layM t p).1.length ≤ 2000000 ∧ ∀ x ∈ (layM t p).1, x.props.length ≤ 2000000 := by
  by_cases h : (layM t p).2 = 0
  · have hk := layM_ok (t := t) (p := p) (u := (layM t p).1) (Prod.ext rfl h)
    refine ⟨short_ok hk, ?_, fun x hx => ?_⟩
    · have := treeOk_len hk; omega
    · obtain ⟨i, hi⟩ := List.mem_iff_getElem?.1 hx
      have h1 := (treeOk_nd hk hi).pr
      unfold propsOk at h1
      simp only [Bool.and_eq_true, decide_eq_true_eq] at h1
      omega
  · rw [layM_err h]
    exact ⟨fun x hx => by simp at hx, by simp, fun x hx => by simp at hx⟩
/-- What is handed to the program: a tree and a piece, with marks. -/
structure LyW (l1 l2 l3 l4 : Nat) (w : World) (r : Value) (t : List Nd) (p : Pc) (lab : Lb) (xa : Option Addr) (xc : Nat) (pvs : List Sl) (laby : Lb) (ya : Option Addr) (yc : Nat) (qvs : List Sl) (da : Option Addr) (dc : Nat) : Prop where
  tx : TrL l1 lab w xa xc t pvs
  py : PcL l2 w r p laby ya yc qvs da dc
  b6 : Bk w l3 25 [vs p.target, .slice ya p.nodes.length yc, .slice da p.drop.length dc]
  hx : ∀ b c, lab b = some c → l1 ≤ b ∧ b < l2
  hy : ∀ b c, laby b = some c → l2 ≤ b ∧ b < l3
  hd : ∀ b, (Value.slice da (p.drop.length + 1) dc).ownBlock = some b → b < l3 ∧ laby b = none ∧ l2 ≤ b
  l23 : l2 ≤ l3
  l34 : l3 < l4
  s4 : l4 ≤ w.heap.size
section
variable {l1 l2 l3 l4 : Nat} {w w' : World} {r : Value} {t : List Nd} {p : Pc} {lab laby : Lb} {xa ya da : Option Addr} {xc yc dc : Nat} {pvs qvs : List Sl} {M : Nat → Prop}
theorem LyW.chg (h : LyW l1 l2 l3 l4 w r t p lab xa xc pvs laby ya yc qvs da dc) (c : Chg M w w') (hM : ∀ b, M b → l4 ≤ b) : LyW l1 l2 l3 l4 w' r t p lab xa xc pvs laby ya yc qvs da dc := by
  have h1 := h.l34
  have h2 := h.l23
  refine ⟨h.tx.chg c fun b hb e => ?_, h.py.chg c (fun b hb e => ?_) (fun b e1 e2 => ?_), h.b6.chg c fun e => ?_, h.hx, h.hy, h.hd, h2, h1, Nat.le_trans h.s4 c.size⟩
  · cases hq : lab b with
    | none => rfl
    | some q => have := (h.hx b q hq).2; have := hM b e; omega
  · cases hq : laby b with
    | none => rfl
    | some q => have := (h.hy b q hq).2; have := hM b e; omega
  · have := (h.hd b e1).1; have := hM b e2; omega
  · have := hM _ e; omega
theorem LyW.new (h : LyW l1 l2 l3 l4 w r t p lab xa xc pvs laby ya yc qvs da dc) (c : New w w') : LyW l1 l2 l3 l4 w' r t p lab xa xc pvs laby ya yc qvs da dc := h.chg c fun _ e => e.elim
theorem LyW.eq (h : LyW l1 l2 l3 l4 w r t p lab xa xc pvs laby ya yc qvs da dc) : r = .agg #[vs p.target, .slice ya p.nodes.length yc, .slice da p.drop.length dc] := h.py.eq
end
set_option maxHeartbeats 8000000 in
set_option maxRecDepth 8000 in
theorem lays_law {w : World} {tv nv dv : Value} {t : List Nd} {p : Pc} (ht : RdS rNd 3 (fun b => b < w.heap.size) w tv t) (hn : RdS rNd 3 (fun b => b < w.heap.size) w nv p.nodes) (hd : RdS (one vs) 1 (fun b => b < w.heap.size) w dv p.drop)
    (bt : Bd t) (bp : Bd p.nodes) (hdl : p.drop.length ≤ 1500000) (hs : p.target.length ≤ 1500000) :
    Calls Tryd.prog 3 #[tv, .agg #[vs p.target, nv, dv]] w (Ret fun r w' => r = .bool true ∧ New w w') := by
  refine calls_of_Wc Tryd.func3 rfl Tryd.ntmps3 rfl ?_
  (repeat' (first | refine Wc.seq ?_ | refine Wc.region ?_))
  refine Wl.box rfl fun w1 b1 n1 s1 => ?_
  replace b1 : Bk w1 w.heap.size 25 [vs p.target, nv, dv] := b1
  (repeat' (first | refine Wl.moveE (by conv => { lhs; whnf }) ?_ | refine Wl.assignE (by conv => { lhs; whnf }) ?_ | refine Wl.nil ?_ | refine Qseq.normal ?_ | refine Wc.seq ?_ | refine Wc.region ?_))
  refine Wl.call (lent_spec (ht.keep stableNd n1.keep) (by have := bt.len; omega) bt.pr) rfl ?_
  rintro _ w2 ⟨lab, xa, xc, pvs, rfl, tx, n2⟩
  have n02 := New.trans n1 n2
  have n23lt : w.heap.size < w1.heap.size := b1.lt
  (repeat' (first | refine Wl.assignE (by conv => { lhs; whnf }) ?_ | refine Wl.nil ?_ | refine Qseq.normal ?_ | refine Wc.seq ?_ | refine Wc.region ?_))
  refine Wl.loadB (b1.chg n2 id) rfl rfl ?_
  refine Wl.call (lentPiece_spec (hn.keep stableNd n02.keep) (hd.keep (stable_one _) n02.keep) bp.len bp.pr hdl) rfl ?_
  rintro r w3 ⟨⟨laby, ya, yc, qvs, da, dc, py⟩, n3⟩
  obtain rfl := py.eq
  have n03 := New.trans n02 n3
  skip
  refine Wl.alloc fun w4 z4 n4 s4 => ?_
  refine Wl.storeB (new := [vs p.target, .slice ya p.nodes.length yc, .slice da p.drop.length dc]) z4 rfl rfl rfl rfl (show (3 : Nat) ≤ 3 from Nat.le_refl 3) (by intro c hc; simp at hc; rcases hc with rfl | rfl | rfl <;> rfl) fun w5 z5 c5 s5 => ?_
  replace z5 : Bk w5 w3.heap.size 25 [vs p.target, .slice ya p.nodes.length yc, .slice da p.drop.length dc] := z5
  have n04 := New.trans n03 n4
  have n05 : New w w5 := Chg.trans n04 c5 fun b hb e => by have := n03.size; omega
  have n23 := n3.size
  have n2w : w.heap.size ≤ w2.heap.size := n02.size
  have s05 := n05.size
  have hx2 : ∀ b c, lab b = some c → w1.heap.size ≤ b ∧ b < w2.heap.size := tx.low
  have hy2 : ∀ b c, laby b = some c → w2.heap.size ≤ b ∧ b < w3.heap.size := py.tl.low
  have W5 : LyW w1.heap.size w2.heap.size w3.heap.size w5.heap.size w5 _ t p lab xa xc pvs laby ya yc qvs da dc :=
    ⟨((tx.new n3).new n4).chg c5 (fun b hb e => by
        cases hq : lab b with
        | none => rfl
        | some q => have := (hx2 b q hq).2; omega), (py.new n4).chg c5 (fun b hb e => by
        cases hq : laby b with
        | none => rfl
        | some q => have := (hy2 b q hq).2; omega) (fun b e1 e2 => by have := (py.dl.lt e1).2; omega), z5, hx2, hy2, fun b e => by have := py.dl.lt e; exact ⟨this.2, this.1.2, this.1.1⟩, n23, by omega, Nat.le_refl _⟩
  have b15 : Bk w5 w.heap.size 25 [vs p.target, nv, dv] := ((b1.chg (New.trans n2 n3) id).chg n4 id).chg c5 (by have := n03.size; have := b1.lt; have := n2.size; omega)
  clear tx py z4 z5 c5
  (repeat' (first | refine Wl.moveE (by conv => { lhs; whnf }) ?_ | refine Wl.nil ?_ | refine Qseq.normal ?_ | refine Wc.seq ?_ | refine Wc.region ?_))
  refine Wl.loadB b15 rfl rfl ?_
  refine Wl.call (LayR_spec (ht.keep stableNd n05.keep) (hn.keep stableNd n05.keep) (hd.keep (stable_one _) n05.keep)) rfl ?_
  rintro _ w6 ⟨wv, wvs, rfl, n6, tw⟩
  rw [layRM_M] at tw ⊢
  have s6 := n6.size
  (repeat' (first | refine Wl.moveE (by conv => { lhs; whnf }) ?_ | refine Wl.assignE (by conv => { lhs; whnf }) ?_ | refine Wl.nil ?_ | refine Wl.extract rfl rfl ?_ | refine Qseq.normal ?_ | refine Wc.seq ?_ | refine Wc.region ?_))
  refine Wl.loadB (W5.b6.chg n6 id) rfl rfl ?_
  obtain ⟨Pd5, rd5⟩ := W5.py.rdd
  refine Wl.call (Lay_spec (anyN (W5.tx.own.rd.keep stableNd n6.keep)) (anyN (W5.py.rdn.keep stableNd n6.keep)) (anyS (rd5.keep (stable_one _) n6.keep)) (by omega)) rfl ?_
  rintro _ w7 ⟨v1, rfl, n7, lab1, pvs1, t1⟩
  have n57 := New.trans n6 n7
  have s7 := n7.size
  (repeat' (first | refine Wl.moveE (by conv => { lhs; whnf }) ?_ | refine Wl.assignE (by conv => { lhs; whnf }) ?_ | refine Wl.nil ?_ | refine Wl.extract rfl rfl ?_ | refine Qseq.normal ?_ | refine Wc.seq ?_ | refine Wc.region ?_))
  refine Wl.loadB (W5.b6.chg n57 id) rfl rfl ?_
  refine Wl.call (Lay_spec (anyN (W5.tx.own.rd.keep stableNd n57.keep)) (anyN (W5.py.rdn.keep stableNd n57.keep)) (anyS (rd5.keep (stable_one _) n57.keep)) (by omega)) rfl ?_
  rintro _ w8 ⟨v2, rfl, n8, lab2, pvs2, t2⟩
  have n58 := New.trans n57 n8
  have s8 := n8.size
  have W8 := W5.new n58
  have b18 := b15.chg n58 id
  have l1w : ∀ b, lab1 b ≠ none → w6.heap.size ≤ b ∧ b < w7.heap.size := fun b e => by
    cases hq : lab1 b with
    | none => exact absurd hq e
    | some q => exact t1.low b q hq
  have t18 := t1.new n8
  have tw8 := ((tw.rd.mono monoNd (Pb' := fun b => b < w6.heap.size) fun b hb _ => hb).keep stableNd (New.trans n7 n8).keep)
  have t28 := t2.rd
  obtain ⟨sh, hlen, hpr⟩ := layM_small (t := t) (p := p)
  generalize hR : layM t p = R at *
  have ht8 := ht.keep stableNd (New.trans n05 n58).keep
  have hn8 := hn.keep stableNd (New.trans n05 n58).keep
  have hd8 := hd.keep (stable_one _) (New.trans n05 n58).keep
  have n08 := New.trans n05 n58
  have s15 : w.heap.size < w5.heap.size := b15.lt
  clear t1 tw t2 W5 b15 b1
  have kW : ∀ {w' : World}, Chg (fun b => lab1 b ≠ none) w8 w' → LyW w1.heap.size w2.heap.size w3.heap.size w5.heap.size w' _ t p lab xa xc pvs laby ya yc qvs da dc := fun c => W8.chg c fun b e => by have := (l1w b e).1; omega
  have kb : ∀ {w' : World}, Chg (fun b => lab1 b ≠ none) w8 w' → Bk w' w.heap.size 25 [vs p.target, nv, dv] := fun c => b18.chg c fun e => by have := (l1w _ e).1; omega
  have kt : ∀ {w' : World}, Chg (fun b => lab1 b ≠ none) w8 w' → Keep (fun b => b < w.heap.size) w8 w' := fun c => c.keep fun b _ e1 e2 => by have := (l1w b e2).1; omega
  (repeat' (first | refine Wl.moveE (by conv => { lhs; whnf }) ?_ | refine Wl.assignE (by conv => { lhs; whnf }) ?_ | refine Wl.nil ?_ | refine Wl.extract rfl rfl ?_ | refine Qseq.normal ?_))
  refine Wc.cut (fun F w' => agrees F [(5, .slice xa t.length xc), (6, ptrV w3.heap.size)] ∧ Chg (fun b => lab1 b ≠ none) w8 w') ?_ ?_
  · refine Wc.cut (fun F w' => agrees F [(5, .slice xa t.length xc), (6, ptrV w3.heap.size), (84, .bool false)] ∧ Chg (fun b => lab1 b ≠ none) w8 w') ?_ ?_
    · refine Wc.regionG (m := 46) rfl (by kernel_rfl) (fun w' => Chg (fun b => lab1 b ≠ none) w8 w') (Chg.drew _ _) rfl ?_
      intro w9 n9
      show Wg _ _ _ _ _ _ _ [0, 1, 2, 3, 4, 5, 6, 7, 8, 9, 10, 11, 12, 13, 14, 15, 16, 17, 18, 19, 20, 21, 22, 23, 24, 25, 26, 27, 28, 29, 30, 31, 32, 33, 34, 35, 36, 37, 38, 39, 40, 41, 42, 43, 44, 45] _ _
      refine Wg.qh rfl rfl rfl (Wq.loadAt (fun w' hw => (kW hw).b6.at) rfl rfl (Wq.nil ?_))
      refine Wg.quiet (q := 2) (l' := [1, 3, 4, 5, 6, 7, 8, 9, 10, 11, 12, 13, 14, 15, 16, 17, 18, 19, 20, 21, 22, 23, 24, 25, 26, 27, 28, 29, 30, 31, 32, 33, 34, 35, 36, 37, 38, 39, 40, 41, 42, 43, 44, 45]) rfl rfl rfl (Wq.loadAt (fun w' hw => (kb hw).at) rfl rfl (Wq.nil ?_))
      have n9' : Chg (fun b => lab1 b ≠ none) w8 w9 := n9.any
      have W9 := W8.new n9
      obtain ⟨Pd9, rd9⟩ := W9.py.rdd
      have ck1 := fun (w' : World) (hw : New w9 w') => CheckP_spec (anyN (W9.py.rdn.keep stableNd hw.keep)) (anyS (rd9.keep (stable_one _) hw.keep))
      have ck2 := fun (w' : World) (hw : New w9 w') => CheckPR_spec (p := p) (anyN (hn8.keep stableNd (New.trans n9 hw).keep)) (anyS (hd8.keep (stable_one _) (New.trans n9 hw).keep))
      refine Wg.oneH rfl rfl rfl rfl rfl (Wl.call (ck1 _ (Chg.refl _ _)) rfl ?_)
      rintro _ w10 ⟨rfl, n10⟩
      refine Wl.nil ⟨rfl, (New.trans n9 n10).any, ?_⟩
      refine Wg.oneH rfl rfl rfl rfl rfl (Wl.call (ck2 _ n10) rfl ?_)
      rintro _ w11 ⟨rfl, n11'⟩
      refine Wl.nil ⟨rfl, (New.trans n9 (New.trans n10 n11')).any, ?_⟩
      have n11 := New.trans n9 (New.trans n10 n11')
      clear ck1 ck2 rd9 W9 n9' n9 n10 n11'
      have W11 := W8.new n11
      have t11 := ht8.keep stableNd n11.keep
      (repeat' (first | refine Wg.nil ?_ | (refine Wg.qh rfl rfl rfl ?_; (try refine Wq.guardY rfl rfl ?_); (first | refine Wq.moveE (by conv => { lhs; whnf }) ?_ | refine Wq.assignE (by conv => { lhs; whnf }) ?_ | refine Wq.extract rfl rfl ?_ | refine Wq.pickTE rfl (by conv => { lhs; whnf }) ?_ | refine Wq.pickFE rfl (by conv => { lhs; whnf }) ?_ | refine Wq.notB rfl ?_ | refine Wq.lenS rfl ?_ | refine Wq.lenStr rfl ?_ | refine Wq.nilP rfl ?_ | refine Wq.fieldAddr rfl rfl ?_ | refine Wq.add rfl rfl (by omega) (by omega) ?_ | refine Wq.sub rfl rfl (by omega) (by omega) ?_ | refine Wq.mul rfl rfl (by omega) (by omega) ?_ | refine Wq.convI rfl ?_ | (refine Wq.lss rfl rfl (fun _ => ?_) (fun _ => ?_) <;> (first | (exfalso; omega) | (exfalso; contradiction) | skip)) | (refine Wq.leq rfl rfl (fun _ => ?_) (fun _ => ?_) <;> (first | (exfalso; omega) | (exfalso; contradiction) | skip)) | (refine Wq.gtr rfl rfl (fun _ => ?_) (fun _ => ?_) <;> (first | (exfalso; omega) | (exfalso; contradiction) | skip)) | (refine Wq.geq rfl rfl (fun _ => ?_) (fun _ => ?_) <;> (first | (exfalso; omega) | (exfalso; contradiction) | skip)) | (refine Wq.eql rfl rfl (fun _ => ?_) (fun _ => ?_) <;> (first | (exfalso; omega) | (exfalso; contradiction) | skip)) | (refine Wq.neq rfl rfl (fun _ => ?_) (fun _ => ?_) <;> (first | (exfalso; omega) | (exfalso; contradiction) | skip)) | (refine Wq.seql rfl rfl (fun _ => ?_) (fun _ => ?_) <;> (first | (exfalso; omega) | (exfalso; contradiction) | skip)) | (refine Wq.sneq rfl rfl (fun _ => ?_) (fun _ => ?_) <;> (first | (exfalso; omega) | (exfalso; contradiction) | skip))); all_goals (try refine Wq.nil ?_))))
      refine Wg.oneH rfl rfl rfl rfl rfl (Wl.guardY rfl rfl (Wl.call (kept_spec W11.tx t11 bt.short) rfl ?_))
      rintro _ w12 ⟨rfl, n12⟩
      have n812 := New.trans n11 n12
      refine Wl.nil ⟨rfl, n812.any, ?_⟩
      (repeat' (first | refine Wg.nil ?_ | (refine Wg.qh rfl rfl rfl ?_; (try refine Wq.guardY rfl rfl ?_); (first | refine Wq.moveE (by conv => { lhs; whnf }) ?_ | refine Wq.assignE (by conv => { lhs; whnf }) ?_ | refine Wq.extract rfl rfl ?_ | refine Wq.pickTE rfl (by conv => { lhs; whnf }) ?_ | refine Wq.pickFE rfl (by conv => { lhs; whnf }) ?_ | refine Wq.notB rfl ?_ | refine Wq.lenS rfl ?_ | refine Wq.lenStr rfl ?_ | refine Wq.nilP rfl ?_ | refine Wq.fieldAddr rfl rfl ?_ | refine Wq.add rfl rfl (by omega) (by omega) ?_ | refine Wq.sub rfl rfl (by omega) (by omega) ?_ | refine Wq.mul rfl rfl (by omega) (by omega) ?_ | refine Wq.convI rfl ?_ | (refine Wq.lss rfl rfl (fun _ => ?_) (fun _ => ?_) <;> (first | (exfalso; omega) | (exfalso; contradiction) | skip)) | (refine Wq.leq rfl rfl (fun _ => ?_) (fun _ => ?_) <;> (first | (exfalso; omega) | (exfalso; contradiction) | skip)) | (refine Wq.gtr rfl rfl (fun _ => ?_) (fun _ => ?_) <;> (first | (exfalso; omega) | (exfalso; contradiction) | skip)) | (refine Wq.geq rfl rfl (fun _ => ?_) (fun _ => ?_) <;> (first | (exfalso; omega) | (exfalso; contradiction) | skip)) | (refine Wq.eql rfl rfl (fun _ => ?_) (fun _ => ?_) <;> (first | (exfalso; omega) | (exfalso; contradiction) | skip)) | (refine Wq.neq rfl rfl (fun _ => ?_) (fun _ => ?_) <;> (first | (exfalso; omega) | (exfalso; contradiction) | skip)) | (refine Wq.seql rfl rfl (fun _ => ?_) (fun _ => ?_) <;> (first | (exfalso; omega) | (exfalso; contradiction) | skip)) | (refine Wq.sneq rfl rfl (fun _ => ?_) (fun _ => ?_) <;> (first | (exfalso; omega) | (exfalso; contradiction) | skip))); all_goals (try refine Wq.nil ?_))))
      refine Wg.qh rfl rfl rfl (Wq.guardY rfl rfl (Wq.loadAt (fun w' hw => (kW hw).b6.at) rfl rfl (Wq.nil ?_)))
      refine Wg.qh rfl rfl rfl (Wq.guardY rfl rfl (Wq.loadAt (fun w' hw => (kb hw).at) rfl rfl (Wq.nil ?_)))
      have W12 := W8.new n812
      refine Wg.oneH rfl rfl rfl rfl rfl (Wl.guardY rfl rfl (Wl.call (keptPiece_spec W12.py (anyN (hn8.keep stableNd n812.keep)) (anyS (hd8.keep (stable_one _) n812.keep)) bp.short) rfl ?_))
      rintro _ w13 ⟨rfl, n13⟩
      have n813 := New.trans n812 n13
      refine Wl.nil ⟨rfl, n813.any, ?_⟩
      (repeat' (first | refine Wg.nil ?_ | (refine Wg.qh rfl rfl rfl ?_; (try refine Wq.guardY rfl rfl ?_); (first | refine Wq.moveE (by conv => { lhs; whnf }) ?_ | refine Wq.assignE (by conv => { lhs; whnf }) ?_ | refine Wq.extract rfl rfl ?_ | refine Wq.pickTE rfl (by conv => { lhs; whnf }) ?_ | refine Wq.pickFE rfl (by conv => { lhs; whnf }) ?_ | refine Wq.notB rfl ?_ | refine Wq.lenS rfl ?_ | refine Wq.lenStr rfl ?_ | refine Wq.nilP rfl ?_ | refine Wq.fieldAddr rfl rfl ?_ | refine Wq.add rfl rfl (by omega) (by omega) ?_ | refine Wq.sub rfl rfl (by omega) (by omega) ?_ | refine Wq.mul rfl rfl (by omega) (by omega) ?_ | refine Wq.convI rfl ?_ | (refine Wq.lss rfl rfl (fun _ => ?_) (fun _ => ?_) <;> (first | (exfalso; omega) | (exfalso; contradiction) | skip)) | (refine Wq.leq rfl rfl (fun _ => ?_) (fun _ => ?_) <;> (first | (exfalso; omega) | (exfalso; contradiction) | skip)) | (refine Wq.gtr rfl rfl (fun _ => ?_) (fun _ => ?_) <;> (first | (exfalso; omega) | (exfalso; contradiction) | skip)) | (refine Wq.geq rfl rfl (fun _ => ?_) (fun _ => ?_) <;> (first | (exfalso; omega) | (exfalso; contradiction) | skip)) | (refine Wq.eql rfl rfl (fun _ => ?_) (fun _ => ?_) <;> (first | (exfalso; omega) | (exfalso; contradiction) | skip)) | (refine Wq.neq rfl rfl (fun _ => ?_) (fun _ => ?_) <;> (first | (exfalso; omega) | (exfalso; contradiction) | skip)) | (refine Wq.seql rfl rfl (fun _ => ?_) (fun _ => ?_) <;> (first | (exfalso; omega) | (exfalso; contradiction) | skip)) | (refine Wq.sneq rfl rfl (fun _ => ?_) (fun _ => ?_) <;> (first | (exfalso; omega) | (exfalso; contradiction) | skip))); all_goals (try refine Wq.nil ?_))))
      refine Wg.oneH rfl rfl rfl rfl rfl (Wl.guardY rfl rfl (Wl.call (apart_spec (t18.new n813) (t28.keep stableNd n813.keep) (tw8.keep stableNd n813.keep) (fun b hb e => ?_) (fun b hb e => ?_) sh hlen hpr) rfl ?_))
      · cases hq : lab1 b with
        | none => rfl
        | some q => have := (l1w b (by rw [hq]; simp)).2; omega
      · cases hq : lab1 b with
        | none => rfl
        | some q => have := (l1w b (by rw [hq]; simp)).1; omega
      rintro _ w14 ⟨rfl, c14⟩
      have c814 : Chg (fun b => lab1 b ≠ none) w8 w14 := Chg.trans n813.any c14 fun _ _ e => e
      refine Wl.nil ⟨rfl, c814, ?_⟩
      (repeat' (first | refine Wg.nil ?_ | (refine Wg.qh rfl rfl rfl ?_; (try refine Wq.guardY rfl rfl ?_); (first | refine Wq.moveE (by conv => { lhs; whnf }) ?_ | refine Wq.assignE (by conv => { lhs; whnf }) ?_ | refine Wq.extract rfl rfl ?_ | refine Wq.pickTE rfl (by conv => { lhs; whnf }) ?_ | refine Wq.pickFE rfl (by conv => { lhs; whnf }) ?_ | refine Wq.notB rfl ?_ | refine Wq.lenS rfl ?_ | refine Wq.lenStr rfl ?_ | refine Wq.nilP rfl ?_ | refine Wq.fieldAddr rfl rfl ?_ | refine Wq.add rfl rfl (by omega) (by omega) ?_ | refine Wq.sub rfl rfl (by omega) (by omega) ?_ | refine Wq.mul rfl rfl (by omega) (by omega) ?_ | refine Wq.convI rfl ?_ | (refine Wq.lss rfl rfl (fun _ => ?_) (fun _ => ?_) <;> (first | (exfalso; omega) | (exfalso; contradiction) | skip)) | (refine Wq.leq rfl rfl (fun _ => ?_) (fun _ => ?_) <;> (first | (exfalso; omega) | (exfalso; contradiction) | skip)) | (refine Wq.gtr rfl rfl (fun _ => ?_) (fun _ => ?_) <;> (first | (exfalso; omega) | (exfalso; contradiction) | skip)) | (refine Wq.geq rfl rfl (fun _ => ?_) (fun _ => ?_) <;> (first | (exfalso; omega) | (exfalso; contradiction) | skip)) | (refine Wq.eql rfl rfl (fun _ => ?_) (fun _ => ?_) <;> (first | (exfalso; omega) | (exfalso; contradiction) | skip)) | (refine Wq.neq rfl rfl (fun _ => ?_) (fun _ => ?_) <;> (first | (exfalso; omega) | (exfalso; contradiction) | skip)) | (refine Wq.seql rfl rfl (fun _ => ?_) (fun _ => ?_) <;> (first | (exfalso; omega) | (exfalso; contradiction) | skip)) | (refine Wq.sneq rfl rfl (fun _ => ?_) (fun _ => ?_) <;> (first | (exfalso; omega) | (exfalso; contradiction) | skip))); all_goals (try refine Wq.nil ?_))))
      have W14 := kW c814
      refine Wg.oneH rfl rfl rfl rfl rfl (Wl.guardY rfl rfl (Wl.call (kept_spec W14.tx (ht8.keep stableNd (kt c814)) bt.short) rfl ?_))
      rintro _ w15 ⟨rfl, n15⟩
      have c815 : Chg (fun b => lab1 b ≠ none) w8 w15 := Chg.trans c814 n15 fun _ _ e => e.elim
      refine Wl.nil ⟨rfl, c815, ?_⟩
      (repeat' (first | refine Wg.nil ?_ | (refine Wg.qh rfl rfl rfl ?_; (try refine Wq.guardY rfl rfl ?_); (first | refine Wq.moveE (by conv => { lhs; whnf }) ?_ | refine Wq.assignE (by conv => { lhs; whnf }) ?_ | refine Wq.extract rfl rfl ?_ | refine Wq.pickTE rfl (by conv => { lhs; whnf }) ?_ | refine Wq.pickFE rfl (by conv => { lhs; whnf }) ?_ | refine Wq.notB rfl ?_ | refine Wq.lenS rfl ?_ | refine Wq.lenStr rfl ?_ | refine Wq.nilP rfl ?_ | refine Wq.fieldAddr rfl rfl ?_ | refine Wq.add rfl rfl (by omega) (by omega) ?_ | refine Wq.sub rfl rfl (by omega) (by omega) ?_ | refine Wq.mul rfl rfl (by omega) (by omega) ?_ | refine Wq.convI rfl ?_ | (refine Wq.lss rfl rfl (fun _ => ?_) (fun _ => ?_) <;> (first | (exfalso; omega) | (exfalso; contradiction) | skip)) | (refine Wq.leq rfl rfl (fun _ => ?_) (fun _ => ?_) <;> (first | (exfalso; omega) | (exfalso; contradiction) | skip)) | (refine Wq.gtr rfl rfl (fun _ => ?_) (fun _ => ?_) <;> (first | (exfalso; omega) | (exfalso; contradiction) | skip)) | (refine Wq.geq rfl rfl (fun _ => ?_) (fun _ => ?_) <;> (first | (exfalso; omega) | (exfalso; contradiction) | skip)) | (refine Wq.eql rfl rfl (fun _ => ?_) (fun _ => ?_) <;> (first | (exfalso; omega) | (exfalso; contradiction) | skip)) | (refine Wq.neq rfl rfl (fun _ => ?_) (fun _ => ?_) <;> (first | (exfalso; omega) | (exfalso; contradiction) | skip)) | (refine Wq.seql rfl rfl (fun _ => ?_) (fun _ => ?_) <;> (first | (exfalso; omega) | (exfalso; contradiction) | skip)) | (refine Wq.sneq rfl rfl (fun _ => ?_) (fun _ => ?_) <;> (first | (exfalso; omega) | (exfalso; contradiction) | skip))); all_goals (try refine Wq.nil ?_))))
      refine Wg.qh rfl rfl rfl (Wq.guardY rfl rfl (Wq.loadAt (fun w' hw => (kW hw).b6.at) rfl rfl (Wq.nil ?_)))
      refine Wg.qh rfl rfl rfl (Wq.guardY rfl rfl (Wq.loadAt (fun w' hw => (kb hw).at) rfl rfl (Wq.nil ?_)))
      have W15 := kW c815
      refine Wg.oneH rfl rfl rfl rfl rfl (Wl.guardY rfl rfl (Wl.call (keptPiece_spec W15.py (anyN (hn8.keep stableNd (kt c815))) (anyS (hd8.keep (stable_one _) (kt c815))) bp.short) rfl ?_))
      rintro _ w16 ⟨rfl, n16⟩
      have c816 : Chg (fun b => lab1 b ≠ none) w8 w16 := Chg.trans c815 n16 fun _ _ e => e.elim
      refine Wl.nil ⟨rfl, c816, ?_⟩
      (repeat' (first | refine Wg.nil ?_ | (refine Wg.qh rfl rfl rfl ?_; (try refine Wq.guardY rfl rfl ?_); (first | refine Wq.moveE (by conv => { lhs; whnf }) ?_ | refine Wq.assignE (by conv => { lhs; whnf }) ?_ | refine Wq.extract rfl rfl ?_ | refine Wq.pickTE rfl (by conv => { lhs; whnf }) ?_ | refine Wq.pickFE rfl (by conv => { lhs; whnf }) ?_ | refine Wq.notB rfl ?_ | refine Wq.lenS rfl ?_ | refine Wq.lenStr rfl ?_ | refine Wq.nilP rfl ?_ | refine Wq.fieldAddr rfl rfl ?_ | refine Wq.add rfl rfl (by omega) (by omega) ?_ | refine Wq.sub rfl rfl (by omega) (by omega) ?_ | refine Wq.mul rfl rfl (by omega) (by omega) ?_ | refine Wq.convI rfl ?_ | (refine Wq.lss rfl rfl (fun _ => ?_) (fun _ => ?_) <;> (first | (exfalso; omega) | (exfalso; contradiction) | skip)) | (refine Wq.leq rfl rfl (fun _ => ?_) (fun _ => ?_) <;> (first | (exfalso; omega) | (exfalso; contradiction) | skip)) | (refine Wq.gtr rfl rfl (fun _ => ?_) (fun _ => ?_) <;> (first | (exfalso; omega) | (exfalso; contradiction) | skip)) | (refine Wq.geq rfl rfl (fun _ => ?_) (fun _ => ?_) <;> (first | (exfalso; omega) | (exfalso; contradiction) | skip)) | (refine Wq.eql rfl rfl (fun _ => ?_) (fun _ => ?_) <;> (first | (exfalso; omega) | (exfalso; contradiction) | skip)) | (refine Wq.neq rfl rfl (fun _ => ?_) (fun _ => ?_) <;> (first | (exfalso; omega) | (exfalso; contradiction) | skip)) | (refine Wq.seql rfl rfl (fun _ => ?_) (fun _ => ?_) <;> (first | (exfalso; omega) | (exfalso; contradiction) | skip)) | (refine Wq.sneq rfl rfl (fun _ => ?_) (fun _ => ?_) <;> (first | (exfalso; omega) | (exfalso; contradiction) | skip))); all_goals (try refine Wq.nil ?_))))
      exact ⟨rfl, ⟨rfl, rfl, rfl, trivial⟩, c816⟩
    · rintro F9 w9 ⟨hag, c9⟩
      rw [← upds_of_agrees hag]
      simp only [upds]
      (repeat' (first | refine Wc.skip ?_ | refine Wc.condF rfl ?_))
      exact ⟨rfl, ⟨rfl, rfl, trivial⟩, c9⟩
  · rintro F9 w9 ⟨hag, c89⟩
    rw [← upds_of_agrees hag]
    simp only [upds]
    have W9 := kW c89
    have n09 : New w w9 := Chg.trans n08 c89 fun b hb e => by have := (l1w b e).1; omega
    clear hag c89 kW kb kt n1 n2 n3 n02 n03 n04 n05 s05 s1 s4 s5 n6 s6 n7 s7 n57 n8 n58 s8 W8 b18 l1w t18 tw8 t28 sh hlen hpr ht8 hn8 hd8 n08 n4 hx2 hy2 rd5 hR
    have hbl := bt.len
    have hbp := bp.len
    have hl12 := W9.hx
    have hl23 := W9.hy
    have h23 := W9.l23
    have h34 := W9.l34
    have s9 := W9.s4
    have s01 : w.heap.size < w1.heap.size := n23lt
    (repeat' (first | refine Wl.assignE (by conv => { lhs; whnf }) ?_ | refine Wl.nil ?_ | refine Qseq.normal ?_ | refine Wc.seq ?_ | refine Wc.region ?_ | refine Wc.block ?_))
    refine Wc.loop (σ := Nat × List Nd) (fun s => [(5, .slice xa t.length xc), (6, ptrV w3.heap.size), (13, vi s.1)])
      (fun s w' => s.1 ≤ t.length ∧ s.2.length = t.length ∧ TrL w1.heap.size lab w' xa xc s.2 pvs ∧ (∀ j, s.1 ≤ j → s.2[j]? = t[j]?) ∧ (∀ x ∈ s.2, x.props.length ≤ 1500000) ∧ Chg (fun b => lab b ≠ none) w9 w') (fun s => t.length - s.1)
      (0, t) ⟨rfl, rfl, rfl, trivial⟩ ⟨Nat.zero_le _, rfl, W9.tx, fun _ _ => rfl, bt.pr, Chg.refl _ _⟩ ?_
    rintro ⟨i, t'⟩ G w10 ⟨hi, htl, h, hsame, hpl, c10⟩
    dsimp only at hi htl h hsame hpl c10
    simp only [upds]
    (repeat' (first | refine Wl.moveE (by conv => { lhs; whnf }) ?_ | refine Wl.assignE (by conv => { lhs; whnf }) ?_ | refine Wl.nil ?_ | refine Wl.lenS rfl ?_ | refine Qseq.normal ?_ | refine Wc.seq ?_ | refine Wc.region ?_ | refine Wc.block ?_ | refine Wc.skip ?_ | refine Wc.exit ?_ | refine Qseq.exit ?_ | refine Qblk.hit ?_ | refine Qloop.exit ?_ | refine Wc.condT rfl ?_ | refine Wc.condF rfl ?_ | refine Wl.lss rfl rfl (fun _ => ?_) (fun _ => ?_)))
    · obtain ⟨x, hx⟩ := get_lt t' (k := i) (by omega)
      obtain ⟨pv, hpv⟩ := get_lt pvs (k := i) (by rw [h.len]; omega)
      obtain ⟨pa, pc, rfl, ho⟩ := h.pr i x pv hx hpv
      have hxt : t[i]? = some x := by rw [← hsame i (Nat.le_refl _)]; exact hx
      have hxl := hpl x (List.mem_of_getElem? hx)
      have hxt2 := bt.tx x (List.mem_of_getElem? hxt)
      refine Wc.loop (σ := Nat × List Pr) (fun s => [(5, .slice xa t.length xc), (6, ptrV w3.heap.size), (13, vi i), (14, vi s.1)])
        (fun s w' => s.1 ≤ x.props.length ∧ s.2.length = x.props.length ∧ (∀ m, s.1 ≤ m → s.2[m]? = x.props[m]?) ∧ TrL w1.heap.size lab w' xa xc (t'.set i { x with props := s.2 }) pvs ∧ Chg (fun b => lab b ≠ none) w9 w') (fun s => x.props.length - s.1)
        (0, x.props) ⟨rfl, rfl, rfl, rfl, trivial⟩ ⟨Nat.zero_le _, rfl, fun _ _ => rfl, by rw [show ({ x with props := x.props } : Nd) = x from rfl, list_set_self hx]; exact h, c10⟩ ?_
      clear ho
      rintro ⟨k, ps⟩ G w11 ⟨hk, hps, hsp, h11, c11⟩
      dsimp only at hk hps hsp h11 c11
      have hx11 : (t'.set i { x with props := ps })[i]? = some { x with props := ps } := by rw [List.getElem?_set, if_pos rfl, if_pos (by omega)]
      have oz := h11.own.arr
      rw [List.length_set, htl] at oz
      have hz : ((t'.set i { x with props := ps }).zip pvs)[i]? = some ({ x with props := ps }, (pa, x.props.length, pc)) := List.getElem?_zip_eq_some.2 ⟨hx11, hpv⟩
      obtain ⟨pa', pc', e, ho⟩ := h11.pr i _ _ hx11 hpv
      simp only [Prod.mk.injEq] at e
      obtain ⟨rfl, _, rfl⟩ := e
      dsimp only at ho
      simp only [upds]
      (repeat' (first | refine Wl.moveE (by conv => { lhs; whnf }) ?_ | refine Wc.seq ?_ | refine Wc.region ?_))
      refine Wl.idxAddr (oz.rd (mono_flat ndV)) rfl rfl (by omega) hz fun b o cs hl hR hat => ?_
      obtain rfl : cs = ndV _ := hR
      (repeat' (refine Wl.fieldAddr rfl rfl ?_))
      refine Wl.load1 (u := .slice pa x.props.length pc) rfl (hat.get 2 rfl) ?_
      clear hat
      (repeat' (first | refine Wl.moveE (by conv => { lhs; whnf }) ?_ | refine Wl.assignE (by conv => { lhs; whnf }) ?_ | refine Wl.nil ?_ | refine Wl.lenS rfl ?_ | refine Qseq.normal ?_ | refine Wc.seq ?_ | refine Wc.region ?_ | refine Wc.block ?_ | refine Wc.skip ?_ | refine Wc.exit ?_ | refine Qseq.exit ?_ | refine Qblk.normal ?_ | refine Qblk.hit ?_ | refine Qloop.exit ?_ | refine Wc.condT rfl ?_ | refine Wc.condF rfl ?_ | refine Wl.add rfl rfl (by omega) (by omega) ?_ | refine Wl.lss rfl rfl (fun _ => ?_) (fun _ => ?_)))
      · obtain ⟨q, hq⟩ := get_lt ps (k := k) (by omega)
        have hqx : x.props[k]? = some q := by rw [← hsp k (Nat.le_refl _)]; exact hq
        have hql := (hxt2 q (List.mem_of_getElem? hqx)).2
        have hq' : (ps ++ [mkP])[k]? = some q := by rw [List.getElem?_append_left (by omega)]; exact hq
        have hos := own_short ho rfl
        rw [hps] at hos
        obtain ⟨g, gc, ge, _⟩ := ho.blk (by simp)
        simp only [Value.slice.injEq] at ge
        obtain ⟨rfl, _, rfl⟩ := ge
        refine Wc.regionT rfl (by kernel_rfl) (New w11) (Chg.drew _ _) ?_
        intro w12 n12
        (repeat' (refine Wt.quiet rfl (Wq.moveE (by conv => { lhs; whnf }) (Wq.nil ?_))))
        refine Wt.quiet rfl (Wq.idxAddr (oz.rd (mono_flat ndV)) (fun w' hw => New.keep hw) rfl rfl (by omega) hz fun b o cs hl hR hat => Wq.nil ?_)
        obtain rfl : cs = ndV _ := hR
        (repeat' (refine Wt.quiet rfl (Wq.fieldAddr rfl rfl (Wq.nil ?_))))
        refine Wt.quiet rfl (Wq.load1 (u := .slice (some ⟨g, 0, none⟩) x.props.length pc) rfl (fun w' hw => (hat w' hw).get 2 rfl) (Wq.nil ?_))
        clear hat
        (repeat' (refine Wt.quiet rfl (Wq.moveE (by conv => { lhs; whnf }) (Wq.nil ?_))))
        refine Wt.quiet rfl (Wq.idxAddr (oz.rd (mono_flat ndV)) (fun w' hw => New.keep hw) rfl rfl (by omega) hz fun b o cs hl hR hat => Wq.nil ?_)
        obtain rfl : cs = ndV _ := hR
        (repeat' (refine Wt.quiet rfl (Wq.fieldAddr rfl rfl (Wq.nil ?_))))
        refine Wt.quiet rfl (Wq.load1 (u := .slice (some ⟨g, 0, none⟩) x.props.length pc) rfl (fun w' hw => (hat w' hw).get 2 rfl) (Wq.nil ?_))
        clear hat
        (repeat' (refine Wt.quiet rfl (Wq.moveE (by conv => { lhs; whnf }) (Wq.nil ?_))))
        refine Wt.quiet rfl (Wq.idxAddr (hos.rd (mono_flat pC)) (fun w' hw => New.keep hw) rfl rfl (by omega) hq fun b o cs hl hR hat => Wq.nil ?_)
        obtain rfl : cs = pC q := hR
        (repeat' (refine Wt.quiet rfl (Wq.fieldAddr rfl rfl (Wq.nil ?_))))
        refine Wt.quiet rfl (Wq.load1 (u := vs q.2) rfl (fun w' hw => (hat w' hw).get 1 rfl) (Wq.nil ?_))
        clear hat
        refine Wt.quiet rfl (Wq.sadd (a := q.2) (b := [43]) rfl rfl (by simp only [List.length_singleton]; omega) (Wq.nil ?_))
        refine Wt.quiet rfl (Wq.idxP rfl rfl (by omega) (by omega) (Wq.nil ?_))
        (repeat' (refine Wt.quiet rfl (Wq.fieldAddr rfl rfl (Wq.nil ?_))))
        refine Wt.last rfl (Wl.storeOwnF (f := pC) (sz := 2) (o := 1) (j := k) (p := q) (q := (q.1, q.2 ++ [43])) (u := vs (q.2 ++ [43])) (cap := pc) (fun _ => rfl) (by omega) rfl hq' rfl (ho.new plainPr n12) (by rw [List.length_append]; rfl) (by show Value.pointer (some ⟨g, 0 + (k : Int).toNat * 2 + 1, none⟩) = _; simp) rfl fun w13 o13 c13 => ?_)
        (repeat' (first | refine Wl.moveE (by conv => { lhs; whnf }) ?_ | refine Wl.assignE (by conv => { lhs; whnf }) ?_ | refine Wl.nil ?_ | refine Qseq.normal ?_ | refine Wc.region ?_ | refine Qblk.normal ?_ | refine Wl.add rfl rfl (by omega) (by omega) ?_))
        rw [List.set_append_left _ _ (by omega)] at o13
        have c13' : Chg (fun b => lab b = some (i + 1)) w12 w13 := c13.mono fun b _ e => (ho.lt e).1
        have h13 := (h11.new n12).setProps hx11 hpv (ps := ps.set k (q.1, q.2 ++ [43])) c13' ⟨_, _, by rw [List.length_set, hps], by rw [List.length_set]; exact o13⟩
        rw [List.set_set] at h13
        exact Qloop.normal (k + 1, ps.set k (q.1, q.2 ++ [43])) ⟨rfl, rfl, rfl, rfl, trivial⟩ ⟨by dsimp only; omega, by simpa using hps, fun m hm => by
          dsimp only at hm ⊢
          rw [List.getElem?_set, if_neg (by omega)]
          exact hsp m (by omega), h13, Chg.trans (Chg.trans c11 n12 fun _ _ e => e.elim) c13' fun b _ e => by rw [e]; simp⟩ (by dsimp only; omega)
      · skip
        exact Qloop.normal (i + 1, t'.set i { x with props := ps }) ⟨rfl, rfl, rfl, trivial⟩ ⟨by dsimp only; omega, by simpa using htl, h11, fun j hj => by
          dsimp only at hj ⊢
          rw [List.getElem?_set, if_neg (by omega)]
          exact hsame j (by omega), fun y hy => by
          rcases List.mem_or_eq_of_mem_set hy with hy | rfl
          · exact hpl y hy
          · dsimp only; omega, c11⟩ (by dsimp only; omega)
    · have hlab : ∀ b, lab b ≠ none → b < w2.heap.size := fun b e => by
        cases hq : lab b with
        | none => exact absurd hq e
        | some q => exact (hl12 b q hq).2
      have py10 := W9.py.chg c10 (fun b hb e => by
        cases hq : laby b with
        | none => rfl
        | some q => have := (hl23 b q hq).1; have := hlab b e; omega) (fun b e1 e2 => by have := (W9.hd b e1).2.2; have := hlab b e2; omega)
      have b10 := W9.b6.chg c10 (fun e => by have := hlab _ e; omega)
      have hyl : ∀ b, laby b ≠ none → w2.heap.size ≤ b ∧ b < w3.heap.size := fun b e => by
        cases hq : laby b with
        | none => exact absurd hq e
        | some q => exact hl23 b q hq
      have hdn := W9.hd
      have n010 : New w w10 := Chg.trans n09 c10 fun b hb e => by
        cases hq : lab b with
        | none => exact absurd hq e
        | some q => have := (hl12 b q hq).1; omega
      have s10 := c10.size
      clear W9 c10 hsame bt
      refine Wc.loop (σ := Nat × List Nd) (fun s => [(5, .slice xa t.length xc), (6, ptrV w3.heap.size), (15, vi s.1)])
        (fun s w' => s.1 ≤ p.nodes.length ∧ s.2.length = p.nodes.length ∧ TrL w2.heap.size laby w' ya yc s.2 qvs ∧ (∀ x ∈ s.2, x.props.length ≤ 1500000) ∧ Chg (fun b => laby b ≠ none) w10 w') (fun s => p.nodes.length - s.1)
        (0, p.nodes) ⟨rfl, rfl, rfl, trivial⟩ ⟨Nat.zero_le _, rfl, py10.tl, bp.pr, Chg.refl _ _⟩ ?_
      rintro ⟨i2, n'⟩ G w11 ⟨hi2, hnl, hn11, hpl2, c11⟩
      dsimp only at hi2 hnl hn11 hpl2 c11
      have b11 := b10.chg c11 (fun e => by have := (hyl _ e).2; omega)
      simp only [upds]
      (repeat' (first | refine Wl.moveE (by conv => { lhs; whnf }) ?_ | refine Wc.seq ?_ | refine Wc.region ?_ | refine Wl.fieldAddr rfl rfl ?_))
      refine Wl.load1 rfl (b11.cell (o := 1) rfl) ?_
      (repeat' (first | refine Wl.assignE (by conv => { lhs; whnf }) ?_ | refine Wl.nil ?_ | refine Wl.lenS rfl ?_ | refine Qseq.normal ?_ | refine Wc.seq ?_ | refine Wc.region ?_ | refine Wc.block ?_ | refine Wc.skip ?_ | refine Wc.exit ?_ | refine Qseq.exit ?_ | refine Qblk.hit ?_ | refine Qloop.exit ?_ | refine Wc.condT rfl ?_ | refine Wc.condF rfl ?_ | refine Wl.lss rfl rfl (fun _ => ?_) (fun _ => ?_)))
      · obtain ⟨x, hx⟩ := get_lt n' (k := i2) (by omega)
        obtain ⟨pv, hpv⟩ := get_lt qvs (k := i2) (by rw [hn11.len]; omega)
        obtain ⟨pa, pc, rfl, ho⟩ := hn11.pr i2 x pv hx hpv
        have hxl := hpl2 x (List.mem_of_getElem? hx)
        refine Wc.loop (σ := Nat × List Pr) (fun s => [(5, .slice xa t.length xc), (6, ptrV w3.heap.size), (15, vi i2), (16, vi s.1)])
          (fun s w' => s.1 ≤ x.props.length ∧ s.2.length = x.props.length ∧ TrL w2.heap.size laby w' ya yc (n'.set i2 { x with props := s.2 }) qvs ∧ Chg (fun b => laby b ≠ none) w10 w') (fun s => x.props.length - s.1)
          (0, x.props) ⟨rfl, rfl, rfl, rfl, trivial⟩ ⟨Nat.zero_le _, rfl, by rw [show ({ x with props := x.props } : Nd) = x from rfl, list_set_self hx]; exact hn11, c11⟩ ?_
        clear ho b11
        rintro ⟨k, ps⟩ G w12 ⟨hk, hps, h12, c12⟩
        dsimp only at hk hps h12 c12
        have b12 := b10.chg c12 (fun e => by have := (hyl _ e).2; omega)
        have hx12 : (n'.set i2 { x with props := ps })[i2]? = some { x with props := ps } := by rw [List.getElem?_set, if_pos rfl, if_pos (by omega)]
        have oz := h12.own.arr
        rw [List.length_set, hnl] at oz
        have hz : ((n'.set i2 { x with props := ps }).zip qvs)[i2]? = some ({ x with props := ps }, (pa, x.props.length, pc)) := List.getElem?_zip_eq_some.2 ⟨hx12, hpv⟩
        obtain ⟨pa', pc', e, ho⟩ := h12.pr i2 _ _ hx12 hpv
        simp only [Prod.mk.injEq] at e
        obtain ⟨rfl, _, rfl⟩ := e
        dsimp only at ho
        simp only [upds]
        (repeat' (first | refine Wl.moveE (by conv => { lhs; whnf }) ?_ | refine Wc.seq ?_ | refine Wc.region ?_ | refine Wl.fieldAddr rfl rfl ?_))
        refine Wl.load1 rfl (b12.cell (o := 1) rfl) ?_
        (repeat' (refine Wl.moveE (by conv => { lhs; whnf }) ?_))
        refine Wl.idxAddr (oz.rd (mono_flat ndV)) rfl rfl (by omega) hz fun b o cs hl hR hat => ?_
        obtain rfl : cs = ndV _ := hR
        (repeat' (refine Wl.fieldAddr rfl rfl ?_))
        refine Wl.load1 (u := .slice pa x.props.length pc) rfl (hat.get 2 rfl) ?_
        clear hat
        (repeat' (first | refine Wl.moveE (by conv => { lhs; whnf }) ?_ | refine Wl.assignE (by conv => { lhs; whnf }) ?_ | refine Wl.nil ?_ | refine Wl.lenS rfl ?_ | refine Qseq.normal ?_ | refine Wc.seq ?_ | refine Wc.region ?_ | refine Wc.block ?_ | refine Wc.skip ?_ | refine Wc.exit ?_ | refine Qseq.exit ?_ | refine Qblk.normal ?_ | refine Qblk.hit ?_ | refine Qloop.exit ?_ | refine Wc.condT rfl ?_ | refine Wc.condF rfl ?_ | refine Wl.fieldAddr rfl rfl ?_ | refine Wl.add rfl rfl (by omega) (by omega) ?_ | refine Wl.lss rfl rfl (fun _ => ?_) (fun _ => ?_)))
        · obtain ⟨q, hq⟩ := get_lt ps (k := k) (by omega)
          have hq' : (ps ++ [mkP])[k]? = some q := by rw [List.getElem?_append_left (by omega)]; exact hq
          obtain ⟨g, gc, ge, _⟩ := ho.blk (by simp)
          simp only [Value.slice.injEq] at ge
          obtain ⟨rfl, _, rfl⟩ := ge
          refine Wl.load1 rfl (b12.cell (o := 1) rfl) ?_
          (repeat' (refine Wl.moveE (by conv => { lhs; whnf }) ?_))
          refine Wl.idxAddr (oz.rd (mono_flat ndV)) rfl rfl (by omega) hz fun b o cs hl hR hat => ?_
          obtain rfl : cs = ndV _ := hR
          (repeat' (refine Wl.fieldAddr rfl rfl ?_))
          refine Wl.load1 (u := .slice (some ⟨g, 0, none⟩) x.props.length pc) rfl (hat.get 2 rfl) ?_
          clear hat
          (repeat' (refine Wl.moveE (by conv => { lhs; whnf }) ?_))
          refine Wl.idxP rfl rfl (by omega) (by omega) ?_
          (repeat' (refine Wl.fieldAddr rfl rfl ?_))
          refine Wl.storeOwnF (f := pC) (sz := 2) (o := 1) (j := k) (p := q) (q := (q.1, [111, 116, 104, 101, 114])) (u := vs [111, 116, 104, 101, 114]) (cap := pc) (fun _ => rfl) (by omega) rfl hq' rfl ho (by rw [List.length_append]; rfl) (by show Value.pointer (some ⟨g, 0 + (k : Int).toNat * 2 + 1, none⟩) = _; simp) rfl fun w13 o13 c13 => ?_
          (repeat' (first | refine Wl.moveE (by conv => { lhs; whnf }) ?_ | refine Wl.assignE (by conv => { lhs; whnf }) ?_ | refine Wl.nil ?_ | refine Qseq.normal ?_ | refine Wc.region ?_ | refine Qblk.normal ?_ | refine Wl.add rfl rfl (by omega) (by omega) ?_))
          rw [List.set_append_left _ _ (by omega)] at o13
          have c13' : Chg (fun b => laby b = some (i2 + 1)) w12 w13 := c13.mono fun b _ e => (ho.lt e).1
          have h13 := h12.setProps hx12 hpv (ps := ps.set k (q.1, [111, 116, 104, 101, 114])) c13' ⟨_, _, by rw [List.length_set, hps], by rw [List.length_set]; exact o13⟩
          rw [List.set_set] at h13
          exact Qloop.normal (k + 1, ps.set k (q.1, [111, 116, 104, 101, 114])) ⟨rfl, rfl, rfl, rfl, trivial⟩ ⟨by dsimp only; omega, by simpa using hps, h13, Chg.trans c12 c13' fun b _ e => by rw [e]; simp⟩ (by dsimp only; omega)
        · exact Qloop.normal (i2 + 1, n'.set i2 { x with props := ps }) ⟨rfl, rfl, rfl, trivial⟩ ⟨by dsimp only; omega, by simpa using hnl, h12, fun y hy => by
            rcases List.mem_or_eq_of_mem_set hy with hy | rfl
            · exact hpl2 y hy
            · dsimp only; omega, c12⟩ (by dsimp only; omega)
      · have X11 := h.chg c11 (fun b hb e => by
          cases hq : lab b with
          | none => rfl
          | some q => have := (hl12 b q hq).2; have := (hyl b e).1; omega)
        have dl11 := (own_short py10.dl rfl).chg (plain_one _) c11 (fun b e1 e2 => by
          have e1' : (Value.slice da (p.drop.length + 1) dc).ownBlock = some b := by cases da <;> exact e1
          exact e2 (hdn b e1').2.1)
        have n011 : New w w11 := Chg.trans n010 c11 fun b hb e => by have := (hyl b e).1; have := n2w; omega
        have rx := anyN X11.own.rd
        have ry := anyN hn11.own.rd
        have rd := anyS (dl11.rd (mono_one _))
        rw [htl] at rx
        rw [hnl] at ry
        clear py10 b10 hdn n010 X11 hn11 dl11 c11 h hlab hyl
        refine Wc.regionT rfl (by kernel_rfl) (New w11) (Chg.drew _ _) ?_
        intro w12 n12
        (repeat' (refine Wt.quiet rfl (Wq.moveE (by conv => { lhs; whnf }) (Wq.nil ?_))))
        refine Wt.chain rfl (Wl.call (Twin_spec (rx.keep stableNd n12.keep) (by omega) (fun x hx => by have := hpl x hx; omega)) rfl ?_)
        rintro v13 w13 ⟨lab13, pvs13, o13, n13⟩
        have n1113 := New.trans n12 n13
        refine Wl.nil ⟨rfl, n1113, ?_⟩
        refine Wt.quiet rfl (Wq.loadAt (fun w' hw => (b11.chg hw id).at) rfl rfl (Wq.nil ?_))
        refine Wt.chain rfl (Wl.call (TwinPiece_spec (p := { p with nodes := n' }) (ry.keep stableNd n1113.keep) (rd.keep (stable_one _) n1113.keep) (by dsimp only; omega) (fun x hx => by have := hpl2 x hx; omega) (by dsimp only; omega)) rfl ?_)
        rintro r14 w14 ⟨⟨nv14, dv14, lab14, pvs14, rfl, o14, d14⟩, n14⟩
        have n1114 := New.trans n1113 n14
        refine Wl.nil ⟨rfl, n1114, ?_⟩
        refine Wt.chain rfl (Wl.call (LayR_spec (p := { p with nodes := n' }) (anyN (o13.new n14).rd) (anyN o14.rd) (anyS (d14.rd (mono_one _)))) rfl ?_)
        rintro _ w15 ⟨wv15, wvs15, rfl, n15, tw15⟩
        rw [layRM_M] at tw15 ⊢
        have n1115 := New.trans n1114 n15
        refine Wl.nil ⟨rfl, n1115, ?_⟩
        (repeat' (first | refine Wt.nil ?_ | refine Wt.quiet rfl (Wq.moveE (by conv => { lhs; whnf }) (Wq.nil ?_)) | refine Wt.quiet rfl (Wq.assignE (by conv => { lhs; whnf }) (Wq.nil ?_)) | refine Wt.quiet rfl (Wq.extract rfl rfl (Wq.nil ?_))))
        have b15 := b11.chg n1115 id
        (repeat' (first | refine Wl.moveE (by conv => { lhs; whnf }) ?_ | refine Qseq.normal ?_ | refine Wc.seq ?_ | refine Wc.region ?_))
        refine Wl.loadB b15 rfl rfl ?_
        refine Wl.call (Lay_spec (p := { p with nodes := n' }) (rx.keep stableNd n1115.keep) (ry.keep stableNd n1115.keep) (rd.keep (stable_one _) n1115.keep) (by dsimp only; omega)) rfl ?_
        rintro _ w16 ⟨v16, rfl, n16, lab16, pvs16, t16⟩
        obtain ⟨sh, _, _⟩ := layM_small (t := t') (p := { p with nodes := n' })
        (repeat' (first | refine Wl.moveE (by conv => { lhs; whnf }) ?_ | refine Wl.assignE (by conv => { lhs; whnf }) ?_ | refine Wl.nil ?_ | refine Wl.extract rfl rfl ?_ | refine Wl.guardY rfl rfl ?_ | refine Qseq.normal ?_ | refine Wc.seq ?_ | refine Wc.region ?_ | (refine Wl.eql rfl rfl (fun _ => ?_) (fun _ => ?_) <;> (first | (exfalso; omega) | skip))))
        refine Wl.call (Same_spec t16.rd (tw15.rd.keep stableNd n16.keep) sh) rfl ?_
        rintro _ w17 ⟨rfl, n17⟩
        (repeat' (first | refine Wl.assignE (by conv => { lhs; whnf }) ?_ | refine Wl.nil ?_ | refine Wl.pickTE rfl (by conv => { lhs; whnf }) ?_ | refine Qseq.normal ?_ | refine Wc.ret ?_))
        exact Qfn.ret1 rfl rfl ⟨_, rfl, rfl, New.trans n011 (New.trans n1115 (New.trans n16 n17))⟩
end Go.Proofs.YtjpebmgllfiloaaDoor

namespace Go.Proofs.YtjpebmgllfiloaaDoor
open Go Wk

theorem bulk_one {H : Type} (d : DataW H) : 1 ≤ Rows.uptoBulk d := by
  cases d with
  | lit l => cases l <;> simp [Rows.uptoBulk]
  | _ => simp [Rows.uptoBulk]
theorem bulk_len {H : Type} (l : List (DataW H)) : l.length ≤ Rows.uptoBulkAll l := by
  induction l with
  | nil => simp [Rows.uptoBulkAll]
  | cons x r ih => have := bulk_one x; simp only [Rows.uptoBulkAll, List.length_cons]; omega
theorem bulk_sl {α : Type} {D : Dat α} {H : Type} {xs : List α} {d : DataW H} (h : datSl D H xs d) : xs.length ≤ Rows.uptoBulk d := by
  rcases h with ⟨rfl, rfl⟩ | ⟨es, sp, rfl, hl, _⟩
  · simp
  · have := bulk_len es
    simp only [Rows.uptoBulk]
    omega
/-- A measure of the elements, added up. -/
theorem bulk_sum {α : Type} {D : Dat α} {H : Type} (μ : α → Nat) (hμ : ∀ x d, D H x d → μ x ≤ Rows.uptoBulk d) : ∀ (xs : List α) (es : List (DataW H)), es.length = xs.length → (∀ (i : Nat) (x : α), xs[i]? = some x → ∃ y, es[i]? = some y ∧ D H x y) → (xs.map μ).sum ≤ Rows.uptoBulkAll es
  | [], es, _, _ => by simp
  | x :: xs, [], h, _ => by simp at h
  | x :: xs, e :: es, h, hd => by
    obtain ⟨y, hy, hD⟩ := hd 0 x rfl
    simp at hy
    subst hy
    have ih := bulk_sum μ hμ xs es (by simpa using h) (fun i x hx => by
      obtain ⟨y, hy, hD⟩ := hd (i + 1) x (by simpa using hx)
      exact ⟨y, by simpa using hy, hD⟩)
    have := hμ x e hD
    simp only [List.map_cons, List.sum_cons, Rows.uptoBulkAll]
    omega
theorem bulk_slsum {α : Type} {D : Dat α} {H : Type} {xs : List α} {d : DataW H} (μ : α → Nat) (hμ : ∀ x d, D H x d → μ x ≤ Rows.uptoBulk d) (h : datSl D H xs d) : (xs.map μ).sum ≤ Rows.uptoBulk d := by
  rcases h with ⟨rfl, rfl⟩ | ⟨es, sp, rfl, hl, hd⟩
  · simp
  · have := bulk_sum μ hμ xs es hl hd
    simp only [Rows.uptoBulk]
    omega
theorem bulk_str {H : Type} (l : List UInt8) (d : DataW H) (h : datStr H l d) : l.length + 1 ≤ Rows.uptoBulk d := by
  obtain ⟨rfl, _⟩ := h
  simp [Rows.uptoBulk]
theorem dat_mem {α : Type} {D : Dat α} {H : Type} {xs : List α} {d : DataW H} (h : datSl D H xs d) {x : α} (hx : x ∈ xs) : ∃ y, D H x y := by
  obtain ⟨i, hi⟩ := List.mem_iff_getElem?.1 hx
  rcases h with ⟨rfl, rfl⟩ | ⟨es, sp, rfl, hl, hd⟩
  · simp at hi
  · obtain ⟨y, _, hD⟩ := hd i x hi
    exact ⟨y, hD⟩
end Go.Proofs.YtjpebmgllfiloaaDoor

namespace Go.Proofs.YtjpebmgllfiloaaDoor
open Go Wk Go.ChangeShapes

theorem cInt : Tryd.prog.cellsOf 3 = 1 := by kernel_rfl
theorem cStr : Tryd.prog.cellsOf 9 = 1 := by kernel_rfl
theorem cPrs : Tryd.prog.cellsOf 35 = 1 := by kernel_rfl
theorem cNds : Tryd.prog.cellsOf 22 = 1 := by kernel_rfl
theorem cStrs : Tryd.prog.cellsOf 23 = 1 := by kernel_rfl
theorem cPr : Tryd.prog.cellsOf 39 = 2 := by kernel_rfl
theorem cNd : Tryd.prog.cellsOf 37 = 3 := by kernel_rfl
theorem cPc : Tryd.prog.cellsOf 25 = 3 := by kernel_rfl

theorem len2 {α : Type} {l : List α} (h : l.length = 2) : ∃ a b, l = [a, b] := by
  match l, h with
  | [a, b], _ => exact ⟨a, b, rfl⟩
theorem len3 {α : Type} {l : List α} (h : l.length = 3) : ∃ a b c, l = [a, b, c] := by
  match l, h with
  | [a, b, c], _ => exact ⟨a, b, c, rfl⟩
def datPr : Dat Pr := fun H x d => ∃ d0 d1, d = .agg [d0, d1] ∧ datStr H x.1 d0 ∧ datStr H x.2 d1
def datNd : Dat Nd := fun H x d => ∃ d0 d1 d2, d = .agg [d0, d1, d2] ∧ datInt .i64 H x.parent d0 ∧ datStr H x.name d1 ∧ datSl datPr H x.props d2
def datPc : Dat Pc := fun H x d => ∃ d0 d1 d2, d = .agg [d0, d1, d2] ∧ datStr H x.target d0 ∧ datSl datNd H x.nodes d1 ∧ datSl datStr H x.drop d2
def rPc : Rel Pc := fun Pb w p cs => RdPc Pb w cs p
theorem opens_pr : Opens Tryd.prog 39 rPr datPr := by
  intro H enc w fuel cs d ps h
  obtain ⟨xs, n, rfl, hx, hl, hlen, hf⟩ := DataW.trod_struct Tryd.underlying39 h
  rw [cPr] at hl
  obtain ⟨c0, c1, rfl⟩ := len2 hl
  obtain ⟨y0, y1, rfl⟩ := len2 (show xs.length = 2 from hlen)
  have e0 : DataW.trod enc Tryd.prog w 0 (fun _ => true) true n 9 (([c0, c1].drop 0).take (Tryd.prog.cellsOf 9)) = some y0 := hf 0 _ rfl
  rw [cStr] at e0
  have e1 : DataW.trod enc Tryd.prog w 0 (fun _ => true) true n 9 (([c0, c1].drop 1).take (Tryd.prog.cellsOf 9)) = some y1 := hf 1 _ rfl
  rw [cStr] at e1
  cases hx
  obtain ⟨s0, r0, q0⟩ := opens_str Tryd.underlying9 H enc w n _ _ _ e0
  obtain ⟨s1, r1, q1⟩ := opens_str Tryd.underlying9 H enc w n _ _ _ e1
  have r0' : [c0] = [vs s0] := r0 (fun _ => True) (fun _ _ => trivial)
  have r1' : [c1] = [vs s1] := r1 (fun _ => True) (fun _ _ => trivial)
  cases r0'
  cases r1'
  exact ⟨(s0, s1), fun _ _ => rfl, _, _, rfl, q0, q1⟩
theorem opens_prs : Opens Tryd.prog 35 (rSl rPr 2) (datSl datPr) := opens_slice Tryd.underlying35 cPr (by decide) opens_pr
theorem opens_nd : Opens Tryd.prog 37 rNd datNd := by
  intro H enc w fuel cs d ps h
  obtain ⟨xs, n, rfl, hx, hl, hlen, hf⟩ := DataW.trod_struct Tryd.underlying37 h
  rw [cNd] at hl
  obtain ⟨c0, c1, c2, rfl⟩ := len3 hl
  obtain ⟨y0, y1, y2, rfl⟩ := len3 (show xs.length = 3 from hlen)
  have e0 : DataW.trod enc Tryd.prog w 0 (fun _ => true) true n 3 (([c0, c1, c2].drop 0).take (Tryd.prog.cellsOf 3)) = some y0 := hf 0 _ rfl
  rw [cInt] at e0
  have e1 : DataW.trod enc Tryd.prog w 0 (fun _ => true) true n 9 (([c0, c1, c2].drop 1).take (Tryd.prog.cellsOf 9)) = some y1 := hf 1 _ rfl
  rw [cStr] at e1
  have e2 : DataW.trod enc Tryd.prog w 0 (fun _ => true) true n 35 (([c0, c1, c2].drop 2).take (Tryd.prog.cellsOf 35)) = some y2 := hf 2 _ rfl
  rw [cPrs] at e2
  cases hx
  obtain ⟨s0, r0, q0⟩ := opens_int Tryd.underlying3 H enc w n _ _ _ e0
  obtain ⟨s1, r1, q1⟩ := opens_str Tryd.underlying9 H enc w n _ _ _ e1
  obtain ⟨s2, r2, q2⟩ := opens_prs H enc w n _ _ _ e2
  have r0' : [c0] = [vi s0] := r0 (fun _ => True) (fun _ _ => trivial)
  have r1' : [c1] = [vs s1] := r1 (fun _ => True) (fun _ _ => trivial)
  cases r0'
  cases r1'
  refine ⟨⟨s0, s1, s2⟩, fun Pb hP => ?_, _, _, _, rfl, q0, q1, q2⟩
  obtain ⟨v, hv, hr⟩ := r2 Pb fun p hp => hP p (by simp; exact .inr (.inr hp))
  have hv' : [c2] = [v] := hv
  cases hv'
  exact ⟨c2, rfl, hr⟩
theorem opens_nds : Opens Tryd.prog 22 (rSl rNd 3) (datSl datNd) := opens_slice Tryd.underlying22 cNd (by decide) opens_nd
theorem opens_strs : Opens Tryd.prog 23 (rSl (one vs) 1) (datSl datStr) := opens_slice Tryd.underlying23 cStr (by decide) (opens_str Tryd.underlying9)
theorem opens_pc : Opens Tryd.prog 25 rPc datPc := by
  intro H enc w fuel cs d ps h
  obtain ⟨xs, n, rfl, hx, hl, hlen, hf⟩ := DataW.trod_struct Tryd.underlying25 h
  rw [cPc] at hl
  obtain ⟨c0, c1, c2, rfl⟩ := len3 hl
  obtain ⟨y0, y1, y2, rfl⟩ := len3 (show xs.length = 3 from hlen)
  have e0 : DataW.trod enc Tryd.prog w 0 (fun _ => true) true n 9 (([c0, c1, c2].drop 0).take (Tryd.prog.cellsOf 9)) = some y0 := hf 0 _ rfl
  rw [cStr] at e0
  have e1 : DataW.trod enc Tryd.prog w 0 (fun _ => true) true n 22 (([c0, c1, c2].drop 1).take (Tryd.prog.cellsOf 22)) = some y1 := hf 1 _ rfl
  rw [cNds] at e1
  have e2 : DataW.trod enc Tryd.prog w 0 (fun _ => true) true n 23 (([c0, c1, c2].drop 2).take (Tryd.prog.cellsOf 23)) = some y2 := hf 2 _ rfl
  rw [cStrs] at e2
  cases hx
  obtain ⟨s0, r0, q0⟩ := opens_str Tryd.underlying9 H enc w n _ _ _ e0
  obtain ⟨s1, r1, q1⟩ := opens_nds H enc w n _ _ _ e1
  obtain ⟨s2, r2, q2⟩ := opens_strs H enc w n _ _ _ e2
  have r0' : [c0] = [vs s0] := r0 (fun _ => True) (fun _ _ => trivial)
  cases r0'
  refine ⟨⟨s0, s1, s2⟩, fun Pb hP => ?_, _, _, _, rfl, q0, q1, q2⟩
  obtain ⟨v1, hv1, hr1⟩ := r1 Pb fun p hp => hP p (by simp; exact .inr (.inl hp))
  obtain ⟨v2, hv2, hr2⟩ := r2 Pb fun p hp => hP p (by simp; exact .inr (.inr hp))
  have hv1' : [c1] = [v1] := hv1
  have hv2' : [c2] = [v2] := hv2
  cases hv1'
  cases hv2'
  exact ⟨c1, c2, rfl, hr1, hr2⟩
theorem opens_pcs : Opens Tryd.prog 48 (rSl rPc 3) (datSl datPc) := opens_slice Tryd.underlying48 cPc (by decide) opens_pc
theorem bulk_pc {H : Type} (x : Pc) (d : DataW H) (h : datPc H x d) : x.target.length ≤ Rows.uptoBulk d ∧ x.nodes.length ≤ Rows.uptoBulk d ∧ x.drop.length ≤ Rows.uptoBulk d := by
  obtain ⟨d0, d1, d2, rfl, h0, h1, h2⟩ := h
  have b0 := bulk_str x.target d0 h0
  have b1 := bulk_sl h1
  have b2 := bulk_sl h2
  simp only [Rows.uptoBulk, Rows.uptoBulkAll]
  omega
theorem sum_ge {l : List Nat} {x : Nat} (h : x ∈ l) : x ≤ l.sum := by
  induction l with
  | nil => simp at h
  | cons y r ih =>
    simp only [List.sum_cons]
    rcases List.mem_cons.1 h with rfl | h
    · omega
    · have := ih h; omega
theorem bulk_pcs {H : Type} {xs : List Pc} {d : DataW H} (h : datSl datPc H xs d) : ∀ p ∈ xs, p.target.length ≤ Rows.uptoBulk d := fun p hp => by
  have h1 := bulk_slsum (fun x : Pc => x.target.length) (fun x d h => (bulk_pc x d h).1) h
  have h2 := sum_ge (List.mem_map.2 ⟨p, hp, rfl⟩ : (fun x : Pc => x.target.length) p ∈ xs.map fun x : Pc => x.target.length)
  exact Nat.le_trans h2 h1
end Go.Proofs.YtjpebmgllfiloaaDoor

namespace Go.Proofs.YtjpebmgllfiloaaDoor
open Go Wk
open Go.RowKit (Below)
attribute [local irreducible] Go.Calls

section
variable {P : Program} {n : Nat} {ds : List Deferred} {Q : Po} {F : Fr} {ops : List Oper} {C : World → Prop} {w : World}
/-- Ways that come together further on. -/
theorem Wg.joinTo {f m : Nat} {l : List Nat} (l' : List Nat) (D : Fr → World → Prop) (k : ∀ F' w', D F' w' → Wg P n ds C Q ops f l' F' w') (h : (∀ F' w', D F' w' → Wg P n ds C Q ops f l' F' w') → Wg P n ds C Q ops (f + m) l F w) : Wg P n ds C Q ops (f + m) l F w := h k
end
theorem stPc : Stable rPc := fun _ _ _ _ _ hk ⟨⟨nv, dv, e, h1, h2⟩⟩ => ⟨⟨nv, dv, e, h1.keep stableNd hk, h2.keep (stable_one _) hk⟩⟩
theorem moPc : Mono rPc := fun _ _ _ _ _ hP ⟨⟨nv, dv, e, h1, h2⟩⟩ => ⟨⟨nv, dv, e, h1.mono monoNd hP, h2.mono (mono_one _) hP⟩⟩
theorem gdPc : GoodR rPc 3 := ⟨stPc, moPc, fun Pb w x cs ⟨⟨nv, dv, e, h1, h2⟩⟩ _ c hc => by
  subst e
  obtain ⟨_, _, rfl, _⟩ := h1.form
  obtain ⟨_, _, rfl, _⟩ := h2.form
  simp at hc
  rcases hc with rfl | rfl | rfl <;> rfl⟩
theorem gdInt : GoodR (one vi) 1 := good_one _ fun _ => rfl
theorem pieceOk_dl {p : Pc} (h : pieceOk p = true) : p.drop.length ≤ 2000000 := by
  unfold pieceOk at h
  simp only [Bool.and_eq_true, decide_eq_true_eq] at h
  omega
abbrev tRf : TypeId := 63
structure RfAt (Pm : Nat → Prop) (w : World) (bm : Nat) (S : Stk) (bv pv nv : Value) : Prop where
  bk : Bk w bm tRf [bv, pv, nv, vi S.laid]
  base : RdS rNd 3 Pm w bv S.base
  pcs : RdS rPc 3 Pm w pv (S.rows.map (·.piece))
  nums : RdS (one vi) 1 Pm w nv (S.rows.map (·.n))
  nb : ¬ Pm bm
  lt : ∀ b, Pm b → b < w.heap.size
section
variable {Pm M : Nat → Prop} {w w' : World} {bm : Nat} {S : Stk} {bv pv nv : Value}
theorem RfAt.chg (h : RfAt Pm w bm S bv pv nv) (c : Chg M w w') (hM : ∀ b, b < w.heap.size → M b → ¬ Pm b ∧ b ≠ bm) : RfAt Pm w' bm S bv pv nv := by
  have k : Keep Pm w w' := c.keep fun b hb e1 e2 => (hM b hb e2).1 e1
  exact ⟨h.bk.chg c fun e => (hM bm h.bk.lt e).2 rfl, h.base.keep stableNd k, h.pcs.keep stPc k, h.nums.keep (stable_one _) k, h.nb, fun b e => Nat.lt_of_lt_of_le (h.lt b e) c.size⟩
theorem RfAt.new (h : RfAt Pm w bm S bv pv nv) (c : New w w') : RfAt Pm w' bm S bv pv nv := h.chg c fun _ _ e => e.elim
end
set_option maxHeartbeats 2000000 in
set_option maxRecDepth 4000 in
theorem treeRf_spec {Pm Pl : Nat → Prop} {w : World} {bm : Nat} {S : Stk} {bv pv nv lv : Value} {l : List Pc} (h : RfAt Pm w bm S bv pv nv) (hok : treeOk S.base = true) (hl : RdS rPc 3 Pl w lv l) :
    Calls Tryd.prog 59 #[ptrV bm, lv] w (Ret fun r w' => ∃ v, r = .tuple #[v, vi (layAll S.base l).2] ∧ RdS rNd 3 (fun b => w.heap.size ≤ b) w' v (layAll S.base l).1 ∧ New w w') := by
  obtain ⟨la, lc, rfl, hlc1, hlc2⟩ := hl.form
  simp only [maxLen] at hlc2
  obtain ⟨ba, bc, rfl, _, _⟩ := h.base.form
  refine calls_of_Wc Tryd.func59 rfl Tryd.ntmps59 rfl ?_
  (repeat' (first | refine Wl.moveE (by conv => { lhs; whnf }) ?_ | refine Wl.assignE (by conv => { lhs; whnf }) ?_ | refine Wl.nil ?_ | refine Qseq.normal ?_ | refine Wc.seq ?_ | refine Wc.region ?_ | refine Wl.nilP rfl ?_ | refine Wl.fieldAddr rfl rfl ?_))
  refine Wl.load1 rfl (h.bk.cell (o := 0) rfl) ?_
  skip
  refine Wl.call (Twin_spec h.base (tree_lens hok).1 (tree_lens hok).2) rfl ?_
  rintro tv w1 ⟨lab1, pvs1, t1, n1⟩
  (repeat' (first | refine Wl.assignE (by conv => { lhs; whnf }) ?_ | refine Wl.nil ?_ | refine Qseq.normal ?_ | refine Wc.seq ?_ | refine Wc.region ?_ | refine Wc.block ?_))
  refine Wc.loop (σ := Nat × List Nd × Value) (fun s => [(0, ptrV bm), (1, .slice la l.length lc), (6, s.2.2), (7, vi s.1)])
    (fun s w' => s.1 ≤ l.length ∧ RdS rNd 3 (fun b => w.heap.size ≤ b) w' s.2.2 s.2.1 ∧ layAll S.base l = layAll s.2.1 (l.drop s.1) ∧ New w w') (fun s => l.length - s.1)
    (0, S.base, tv) ⟨rfl, rfl, rfl, rfl, trivial⟩ ⟨Nat.zero_le _, t1.rd, by simp, n1⟩ ?_
  rintro ⟨i, t, tv⟩ G w2 ⟨hi, rt, hall, n2⟩
  dsimp only at hi rt hall n2
  obtain ⟨ta, tc, rfl, _, _⟩ := rt.form
  simp only [upds]
  (repeat' (first | refine Wl.moveE (by conv => { lhs; whnf }) ?_ | refine Wl.assignE (by conv => { lhs; whnf }) ?_ | refine Wl.nil ?_ | refine Wl.lenS rfl ?_ | refine Qseq.normal ?_ | refine Wc.seq ?_ | refine Wc.region ?_ | refine Wc.block ?_ | refine Wc.skip ?_ | refine Wc.exit ?_ | refine Wc.ret ?_ | refine Qseq.exit ?_ | refine Qblk.hit ?_ | refine Qloop.exit ?_ | refine Wc.condT rfl ?_ | refine Wc.condF rfl ?_ | refine Wl.lss rfl rfl (fun _ => ?_) (fun _ => ?_)))
  · obtain ⟨p, hp⟩ := get_lt l (k := i) (by omega)
    rw [drop_cons hp, layAll] at hall
    refine Wl.idxAddr (hl.keep stPc n2.keep) rfl rfl (by omega) hp fun b o cs hcl hR hat => ?_
    obtain ⟨⟨nv', dv', rfl, hn, hd⟩⟩ := hR
    refine Wl.loadAt hat rfl rfl ?_
    refine Wl.call (LayR_spec (anyN rt) (anyN hn) (anyS hd)) rfl ?_
    rintro _ w3 ⟨v3, pvs3, rfl, n3, t3⟩
    rw [layRM_M] at t3 ⊢
    have s2 := n2.size
    have r3 := t3.rd.mono monoNd (Pb' := fun b => w.heap.size ≤ b) fun b hb e => by omega
    (repeat' (first | refine Wl.moveE (by conv => { lhs; whnf }) ?_ | refine Wl.assignE (by conv => { lhs; whnf }) ?_ | refine Wl.nil ?_ | refine Wl.extract rfl rfl ?_ | refine Qseq.normal ?_ | refine Wc.seq ?_ | refine Wc.region ?_ | refine Wc.skip ?_ | refine Wc.ret ?_ | refine Qseq.ret ?_ | refine Qblk.normal ?_ | refine Qblk.ret ?_ | refine Qloop.ret ?_ | refine Wc.condT rfl ?_ | refine Wc.condF rfl ?_ | refine Wl.add rfl rfl (by omega) (by omega) ?_ | refine Wl.neq rfl rfl (fun _ => ?_) (fun _ => ?_)))
    · rename_i hne
      rw [if_pos hne] at hall
      rw [hall]
      exact Qfn.ret2 rfl rfl rfl ⟨_, rfl, _, rfl, RdS.nil, New.trans n2 n3⟩
    · rename_i heq
      rw [if_neg (by simpa using heq)] at hall
      exact Qloop.normal (i + 1, _, v3) ⟨rfl, rfl, rfl, rfl, trivial⟩ ⟨by dsimp only; omega, r3, hall, New.trans n2 n3⟩ (by dsimp only; omega)
  · rw [List.drop_eq_nil_of_le (by omega)] at hall
    rw [hall]
    exact Qfn.ret2 rfl rfl rfl ⟨_, rfl, _, rfl, rt, n2⟩
theorem TreeRf_spec {Pm : Nat → Prop} {w : World} {bm : Nat} {S : Stk} {bv pv nv : Value} {i : Nat} (h : RfAt Pm w bm S bv pv nv) (I : StI S i) :
    Calls Tryd.prog 58 #[ptrV bm] w (Ret fun r w' => RdS rNd 3 (fun b => w.heap.size ≤ b) w' r (stkTop S S.rows.length) ∧ New w w') := by
  obtain ⟨pa, pc, rfl, _, _⟩ := h.pcs.form
  refine calls_of_Wc Tryd.func58 rfl Tryd.ntmps58 rfl ?_
  (repeat' (first | refine Wl.moveE (by conv => { lhs; whnf }) ?_ | refine Wl.assignE (by conv => { lhs; whnf }) ?_ | refine Wl.nil ?_ | refine Qseq.normal ?_ | refine Wc.seq ?_ | refine Wc.region ?_ | refine Wl.nilP rfl ?_ | refine Wl.fieldAddr rfl rfl ?_))
  refine Wl.load1 rfl (h.bk.cell (o := 1) rfl) ?_
  refine Wl.call (treeRf_spec h I.base h.pcs) rfl ?_
  rintro _ w1 ⟨v1, rfl, r1, n1⟩
  rw [I.all] at r1
  (repeat' (first | refine Wl.moveE (by conv => { lhs; whnf }) ?_ | refine Wl.assignE (by conv => { lhs; whnf }) ?_ | refine Wl.nil ?_ | refine Wl.extract rfl rfl ?_ | refine Qseq.normal ?_ | refine Wc.seq ?_ | refine Wc.region ?_ | refine Wc.ret ?_))
  exact Qfn.ret1 rfl rfl ⟨_, rfl, r1, n1⟩
set_option maxHeartbeats 4000000 in
set_option maxRecDepth 4000 in
theorem LayRf_spec {Pm Pp : Nat → Prop} {w : World} {bm : Nat} {S : Stk} {bv pv nv pnv pdv : Value} {i : Nat} {p : Pc} (h : RfAt Pm w bm S bv pv nv) (I : StI S i) (hi : i ≤ 1000000) (hn : RdS rNd 3 Pp w pnv p.nodes) (hd : RdS (one vs) 1 Pp w pdv p.drop) (hpb : ∀ b, Pp b → b ≠ bm) :
    Calls Tryd.prog 33 #[ptrV bm, .agg #[vs p.target, pnv, pdv]] w (Ret fun r w' => r = .tuple #[vi (stkLay S p).2.1, vi (stkLay S p).2.2] ∧ (∃ Pm' bv' pv' nv', RfAt Pm' w' bm (stkLay S p).1 bv' pv' nv' ∧ ∀ b, Pm' b → Pm b ∨ w.heap.size ≤ b) ∧ Chg (fun b => b = bm) w w') := by
  obtain ⟨ra, rc, rfl, hrc1, hrc2⟩ := h.pcs.form
  obtain ⟨ma, mc, rfl, hmc1, hmc2⟩ := h.nums.form
  simp only [List.length_map] at hrc1 hmc1 h ⊢
  obtain ⟨na, nc, rfl, _, _⟩ := hn.form
  obtain ⟨da, dc, rfl, _, _⟩ := hd.form
  have hlen := I.len
  have hlaid := I.laid
  have hbm := h.bk.lt
  refine calls_of_Wc Tryd.func33 rfl Tryd.ntmps33 rfl ?_
  (repeat' (first | refine Wc.seq ?_ | refine Wc.region ?_))
  refine Wl.box rfl fun w1 b1 n1 s1 => ?_
  replace b1 : Bk w1 w.heap.size 25 [vs p.target, .slice na p.nodes.length nc, .slice da p.drop.length dc] := b1
  have h1 := h.new n1
  have hn1 := hn.keep stableNd n1.keep
  have hd1 := hd.keep (stable_one _) n1.keep
  (repeat' (first | refine Wl.moveE (by conv => { lhs; whnf }) ?_ | refine Wl.assignE (by conv => { lhs; whnf }) ?_ | refine Wl.nil ?_ | refine Qseq.normal ?_ | refine Wc.seq ?_ | refine Wc.region ?_ | refine Wl.nilP rfl ?_ | refine Wl.fieldAddr rfl rfl ?_))
  refine Wl.load1 rfl (h1.bk.cell (o := 1) rfl) ?_
  unfold stkLay
  by_cases h16 : S.rows.length = 16
  · rw [if_pos h16]
    (repeat' (first | refine Wl.assignE (by conv => { lhs; whnf }) ?_ | refine Wl.nil ?_ | refine Wl.lenS rfl ?_ | refine Qseq.normal ?_ | refine Wc.seq ?_ | refine Wc.region ?_ | refine Wc.ret ?_ | refine Qseq.ret ?_ | refine Wc.condT rfl ?_ | (refine Wl.eql rfl rfl (fun _ => ?_) (fun _ => ?_) <;> (first | (exfalso; omega) | skip))))
    exact Qfn.ret2 rfl rfl rfl ⟨_, rfl, rfl, ⟨Pm, _, _, _, h1, fun _ e => .inl e⟩, n1.any⟩
  · rw [if_neg h16]
    (repeat' (first | refine Wl.nil ?_ | refine Wl.lenS rfl ?_ | refine Qseq.normal ?_ | refine Wc.skip ?_ | refine Wc.condF rfl ?_ | (refine Wl.eql rfl rfl (fun _ => ?_) (fun _ => ?_) <;> (first | (exfalso; omega) | skip))))
    refine Wc.cut (fun F w' => ∃ v, agrees F [(0, ptrV bm), (3, ptrV w.heap.size), (6, v), (7, vi (layM (stkTop S S.rows.length) p).2)] ∧ New w1 w') ?_ ?_
    · refine Wc.regionT rfl (by kernel_rfl) (New w1) (Chg.drew _ _) ?_
      intro w2 n2
      (repeat' (refine Wt.quiet rfl (Wq.moveE (by conv => { lhs; whnf }) (Wq.nil ?_))))
      refine Wt.chain rfl (Wl.call (TreeRf_spec (h1.new n2) I) rfl ?_)
      rintro tv w3 ⟨rt, n3⟩
      replace n3 := New.trans n2 n3
      refine Wl.nil ⟨rfl, n3, ?_⟩
      refine Wt.quiet rfl (Wq.loadAt (fun w' hw => (b1.chg hw id).at) rfl rfl (Wq.nil ?_))
      refine Wt.chain rfl (Wl.call (LayR_spec (anyN rt) (anyN (hn1.keep stableNd n3.keep)) (anyS (hd1.keep (stable_one _) n3.keep))) rfl ?_)
      rintro _ w4 ⟨v4, pvs4, rfl, n4, t4⟩
      rw [layRM_M] at t4 ⊢
      refine Wl.nil ⟨rfl, New.trans n3 n4, ?_⟩
      (repeat' (first | refine Wt.nil ?_ | refine Wt.quiet rfl (Wq.moveE (by conv => { lhs; whnf }) (Wq.nil ?_)) | refine Wt.quiet rfl (Wq.assignE (by conv => { lhs; whnf }) (Wq.nil ?_)) | refine Wt.quiet rfl (Wq.extract rfl rfl (Wq.nil ?_))))
      exact ⟨rfl, _, ⟨rfl, rfl, rfl, rfl, trivial⟩, New.trans n3 n4⟩
    · rintro F w4 ⟨v4, hag, n14⟩
      rw [← upds_of_agrees hag]
      simp only [upds]
      have n04 := New.trans n1 n14
      have h4 := h1.new n14
      have b4 := b1.chg n14 id
      have hn4 := hn1.keep stableNd n14.keep
      have hd4 := hd1.keep (stable_one _) n14.keep
      by_cases he : (layM (stkTop S S.rows.length) p).2 ≠ 0
      · rw [if_pos he]
        (repeat' (first | refine Wl.moveE (by conv => { lhs; whnf }) ?_ | refine Wl.assignE (by conv => { lhs; whnf }) ?_ | refine Wl.nil ?_ | refine Qseq.normal ?_ | refine Wc.seq ?_ | refine Wc.region ?_ | refine Wc.ret ?_ | refine Qseq.ret ?_ | refine Wc.condT rfl ?_ | (refine Wl.neq rfl rfl (fun _ => ?_) (fun _ => ?_) <;> (first | (exfalso; omega) | skip))))
        exact Qfn.ret2 rfl rfl rfl ⟨_, rfl, rfl, ⟨Pm, _, _, _, h4, fun _ e => .inl e⟩, n04.any⟩
      · rw [if_neg he]
        have he0 : (layM (stkTop S S.rows.length) p).2 = 0 := by simpa using he
        have hpk := layM_piece (t := stkTop S S.rows.length) (p := p) (u := (layM (stkTop S S.rows.length) p).1) (Prod.ext rfl he0)
        generalize layM (stkTop S S.rows.length) p = R at *
        rw [he0]
        (repeat' (first | refine Wl.moveE (by conv => { lhs; whnf }) ?_ | refine Wl.nil ?_ | refine Qseq.normal ?_ | refine Wc.seq ?_ | refine Wc.region ?_ | refine Wc.skip ?_ | refine Wc.condF rfl ?_ | refine Wl.nilP rfl ?_ | refine Wl.fieldAddr rfl rfl ?_ | (refine Wl.neq rfl rfl (fun _ => ?_) (fun _ => ?_) <;> (first | (exfalso; omega) | skip))))
        refine Wl.load1 rfl (h4.bk.cell (o := 3) rfl) ?_
        (repeat' (first | refine Wl.nilP rfl ?_ | refine Wl.fieldAddr rfl rfl ?_ | refine Wl.add rfl rfl (by omega) (by omega) ?_))
        refine Wl.store1 h4.bk rfl (show (3 : Nat) < 4 by omega) rfl rfl fun w5 b5 c5 => ?_
        replace b5 : Bk w5 bm tRf [bv, .slice ra S.rows.length rc, .slice ma S.rows.length mc, vi (S.laid + 1)] := b5
        have s4 := n04.size
        have s5 := c5.size
        have hx5 : ∀ b, (Pm b ∨ w.heap.size ≤ b) → b ≠ bm := fun b e => by
          rcases e with e | e
          · intro e2; subst e2; exact h.nb e
          · omega
        have k5 : Keep Pm w4 w5 := c5.keep fun b _ e1 e2 => hx5 b (.inl e1) e2
        have pcs5 := h4.pcs.keep stPc k5
        have nums5 := h4.nums.keep (stable_one _) k5
        have base5 := h4.base.keep stableNd k5
        have lt4 := h4.lt
        have bx5 := b4.chg c5 (by omega)
        have hn5 : RdS rNd 3 (fun b => Pp b ∧ b ≠ bm) w5 (.slice na p.nodes.length nc) p.nodes := by
          refine RdS.keep stableNd (c5.keep fun b _ e1 e2 => e1.2 e2) ?_
          exact hn4.mono monoNd fun b hb e => ⟨e, hpb b e⟩
        have hd5 : RdS (one vs) 1 (fun b => Pp b ∧ b ≠ bm) w5 (.slice da p.drop.length dc) p.drop := by
          refine RdS.keep (stable_one _) (c5.keep fun b _ e1 e2 => e1.2 e2) ?_
          exact hd4.mono (mono_one _) fun b hb e => ⟨e, hpb b e⟩
        (repeat' (first | refine Wl.nil ?_ | refine Qseq.normal ?_))
        refine Wc.cut (fun F w' => ∃ (v : Value), agrees F [(0, ptrV bm)] ∧ Bk w' bm tRf [bv, v, .slice ma S.rows.length mc, vi (S.laid + 1)] ∧ RdS rPc 3 (fun b => Pm b ∨ w.heap.size ≤ b) w' v (S.rows.map (·.piece) ++ [p]) ∧ Chg (fun b => b = bm) w5 w') ?_ ?_
        · refine Wc.regionT rfl (by kernel_rfl) (New w5) (Chg.drew _ _) ?_
          intro w6 n6
          have s6 := n6.size
          (repeat' (refine Wt.quiet rfl (Wq.moveE (by conv => { lhs; whnf }) (Wq.nil ?_))))
          refine Wt.chain rfl (Wl.buildSliceE fun w7 hg7 n7 => Wl.nil ⟨rfl, New.trans n6 n7, ?_⟩)
          have s7 := n7.size
          have n57 := New.trans n6 n7
          (repeat' (first | refine Wt.quiet rfl (Wq.moveE (by conv => { lhs; whnf }) (Wq.nil ?_)) | refine Wt.quiet rfl (Wq.nilP rfl (Wq.nil ?_)) | refine Wt.quiet rfl (Wq.fieldAddr rfl rfl (Wq.nil ?_))))
          refine Wt.quiet rfl (Wq.load1 rfl (fun w' hw => (b5.chg hw id).cell (o := 1) rfl) (Wq.nil ?_))
          refine Wt.chain rfl (Wl.appendZ (Pe := Pm) gdPc hg7 (pcs5.keep stPc n57.keep) (fun y cs hy => moPc _ _ _ _ _ (fun b hb e => ⟨e, by have := lt4 b e; omega⟩) hy) rfl rfl (by omega) (by simp only [maxLen, List.length_map]; omega) (by simp only [List.length_map]; omega) fun v8 w8 o8 n8 => Wl.nil ⟨rfl, New.trans n57 n8, ?_⟩)
          have s8 := n8.size
          have n58 := New.trans n57 n8
          refine Wt.quiet rfl (Wq.loadAt (fun w' hw => (bx5.chg hw id).at) rfl rfl (Wq.nil ?_))
          have hnl := tree_lens (pieceOk_nodes hpk)
          refine Wt.chain rfl (Wl.call (TwinPiece_spec (hn5.keep stableNd n58.keep) (hd5.keep (stable_one _) n58.keep) hnl.1 hnl.2 (pieceOk_dl hpk)) rfl ?_)
          rintro r9 w9 ⟨⟨nv9, dv9, lab9, pvs9, rfl, o9, d9⟩, n9⟩
          have s9 := n9.size
          have n59 := New.trans n58 n9
          refine Wl.nil ⟨rfl, n59, ?_⟩
          obtain ⟨a9, c9, rfl, _, _⟩ := o9.rd.form
          obtain ⟨e9, f9, rfl, _, _⟩ := d9.form
          refine Wt.chain rfl (Wl.buildSlice1 (R := rPc) (y := p) (cs := [vs p.target, .slice a9 p.nodes.length c9, .slice e9 p.drop.length f9]) (Pe := fun b => w8.heap.size ≤ b) gdPc rfl rfl rfl
            ⟨⟨_, _, rfl, o9.rd.mono monoNd fun b hb e => ⟨e, by omega⟩, (d9.rd (mono_one _)).mono (mono_one _) fun b hb e => ⟨by rcases e with e | e; exact e.1; exact e.elim, by omega⟩⟩⟩ (by omega) (by omega) fun v10 w10 o10 n10 s10 hob10 => Wl.nil ⟨rfl, New.trans n59 n10, ?_⟩)
          have n510 := New.trans n59 n10
          have o8' := (o8.keep stPc (New.trans n9 n10).keep (New.trans n9 n10).keep).mono moPc (fun _ _ e => e) (Pe' := fun b => Pm b ∨ w8.heap.size ≤ b) fun b hb e => .inl e
          refine Wt.chain rfl (Wl.appendAll (R := rPc) gdPc o8' (o10.rd moPc) (fun y cs hy => moPc _ _ _ _ _ (fun b hb e => ⟨.inr (by rcases e with e | e <;> omega), fun e2 => by have := (o8.lt e2).2; rcases e with e | e <;> omega⟩) hy) rfl rfl (by omega) (by simp only [maxLen, List.length_map, List.length_singleton]; omega) (by simp only [List.length_map, List.length_singleton]; omega) fun v11 w11 o11 c11 lie11 _ => ?_)
          have n511 : New w5 w11 := Chg.trans n510 c11 fun b hb e => by have := (o8.lt e).1; rcases this with e | e <;> omega
          refine Wl.nil ⟨rfl, n511, ?_⟩
          obtain ⟨a11, c11', rfl, _, _⟩ := o11.form
          (repeat' (first | refine Wt.quiet rfl (Wq.nilP rfl (Wq.nil ?_)) | refine Wt.quiet rfl (Wq.fieldAddr rfl rfl (Wq.nil ?_))))
          refine Wt.last rfl (Wl.store1 (b5.chg n511 id) rfl (show (1 : Nat) < 4 by omega) rfl rfl fun w12 b12 c12 => ?_)
          refine Wl.nil ⟨rfl, _, ⟨rfl, trivial⟩, b12, ?_, Chg.trans n511.any c12 fun _ _ e => e⟩
          have r11 := (o11.rd moPc).mono moPc (Pb' := fun b => Pm b ∨ w.heap.size ≤ b) fun b hb e => by
            rcases e with ((e | e) | e) | (e | e)
            · exact .inr (by omega)
            · exact .inr (by omega)
            · exact .inr (by omega)
            · exact .inl e
            · exact .inr (by omega)
          exact r11.keep stPc (c12.keep fun b _ e1 e2 => hx5 b e1 e2)
        · rintro F w12 ⟨v12, hag, b12, r12, c12⟩
          rw [← upds_of_agrees hag]
          simp only [upds]
          have s12 := c12.size
          have k12 : Keep (fun b => Pm b ∨ w.heap.size ≤ b) w5 w12 := c12.keep fun b _ e1 e2 => hx5 b e1 e2
          have nums12 := (nums5.mono (mono_one _) (Pb' := fun b => Pm b ∨ w.heap.size ≤ b) fun b _ e => .inl e).keep (stable_one _) k12
          have base12 := (base5.mono monoNd (Pb' := fun b => Pm b ∨ w.heap.size ≤ b) fun b _ e => .inl e).keep stableNd k12
          skip
          refine Wc.cut (fun F w' => ∃ (v : Value), agrees F [(0, ptrV bm)] ∧ Bk w' bm tRf [bv, v12, v, vi (S.laid + 1)] ∧ RdS (one vi) 1 (fun b => Pm b ∨ w.heap.size ≤ b) w' v (S.rows.map (·.n) ++ [S.laid + 1]) ∧ Chg (fun b => b = bm) w12 w') ?_ ?_
          · refine Wc.regionG (m := 16) rfl (by kernel_rfl) (New w12) (Chg.drew _ _) rfl ?_
            intro w13 n13
            (repeat' (first | refine Wg.quiet rfl rfl rfl (Wq.moveE (by conv => { lhs; whnf }) (Wq.nil ?_)) | refine Wg.quiet rfl rfl rfl (Wq.nilP rfl (Wq.nil ?_)) | refine Wg.quiet rfl rfl rfl (Wq.fieldAddr rfl rfl (Wq.nil ?_))))
            refine Wg.quiet rfl rfl rfl (Wq.load1 rfl (fun w' hw => (b12.chg hw id).cell (o := 2) rfl) (Wq.nil ?_))
            (repeat' (first | refine Wg.quiet rfl rfl rfl (Wq.moveE (by conv => { lhs; whnf }) (Wq.nil ?_)) | refine Wg.quiet rfl rfl rfl (Wq.nilP rfl (Wq.nil ?_)) | refine Wg.quiet rfl rfl rfl (Wq.fieldAddr rfl rfl (Wq.nil ?_))))
            refine Wg.quiet rfl rfl rfl (Wq.load1 rfl (fun w' hw => (b12.chg hw id).cell (o := 3) rfl) (Wq.nil ?_))
            refine Wg.joinTo (f := 4) (m := 3) [12, 13, 14, 15] (fun F' w' => ∃ (v mv : Value), agrees F' [(0, ptrV bm), (44, ptrV bm), (50, v), (55, mv)] ∧ New w12 w' ∧ OwnS (one vi) 3 1 (fun b => w12.heap.size ≤ b) No w' v (S.rows.map (·.n)) ∧ OwnS (one vi) 3 1 (fun b => w12.heap.size ≤ b) No w' mv [S.laid + 1]) ?_ (fun K => ?_)
            · rintro F' w14 ⟨v, mv, hag, n14, ov, om⟩
              rw [← upds_of_agrees hag]
              simp only [upds]
              refine Wg.one rfl rfl rfl rfl rfl (Wl.appendAll (R := one vi) (Pe := No) gdInt ov (om.rd (mono_one _)) (fun y cs hy => hy) rfl rfl (by omega) (by simp only [maxLen, List.length_singleton, List.length_map]; omega) (by simp only [List.length_singleton, List.length_map]; omega) fun v15 w15 o15 c15 lie15 _ => ?_)
              have n1215 : New w12 w15 := Chg.trans n14 c15 fun b hb e => by have := (ov.lt e).1; omega
              refine Wl.nil ⟨rfl, n1215, ?_⟩
              obtain ⟨a15, c15', rfl, _, _⟩ := o15.form
              (repeat' (first | refine Wg.quiet rfl rfl rfl (Wq.nilP rfl (Wq.nil ?_)) | refine Wg.quiet rfl rfl rfl (Wq.fieldAddr rfl rfl (Wq.nil ?_))))
              refine Wg.last rfl rfl rfl rfl (Wl.store1 (b12.chg n1215 id) rfl (show (2 : Nat) < 4 by omega) rfl rfl fun w16 b16 c16 => ?_)
              refine Wl.nil ⟨rfl, _, ⟨rfl, trivial⟩, b16, ?_, Chg.trans n1215.any c16 fun _ _ e => e⟩
              have s14 := n14.size
              exact ((o15.rd (mono_one _)).mono (mono_one _) (Pb' := fun b => Pm b ∨ w.heap.size ≤ b) fun b hb e => by
                rcases e with (e | e) | e
                · exact .inr (by omega)
                · exact .inr (by omega)
                · exact e.elim).keep (stable_one _) (c16.keep fun b _ e1 e2 => hx5 b e1 e2)
            · have hnk : ∀ w', New w12 w' → RdS (one vi) 1 (fun b => Pm b ∨ w.heap.size ≤ b) w' (.slice ma S.rows.length mc) (S.rows.map (·.n)) := fun w' hw => nums12.keep (stable_one _) hw.keep
              have s13 := n13.size
              refine Wg.two rfl rfl rfl rfl rfl rfl rfl rfl (Wl.buildSliceE fun w14 hg14 n14 => Wl.nil ⟨rfl, New.trans n13 n14, ?_⟩) (Wl.buildSlice1 (R := one vi) (y := S.laid + 1) (Pe := No) gdInt rfl rfl rfl rfl (by omega) (by omega) fun mv w14 oM n14 s14' hob14 => Wl.nil ⟨rfl, New.trans n13 n14, ?_⟩)
              · have n124 := New.trans n13 n14
                have s14 := n14.size
                refine Wg.two rfl rfl rfl rfl rfl rfl rfl rfl
                  (Wl.appendZ (Pe := No) gdInt hg14 (hnk _ n124) (fun y cs hy => hy) rfl rfl (by omega) (by simp only [maxLen, List.length_map]; omega) (by simp only [List.length_map]; omega) fun v15 w15 o15 n15 => Wl.nil ⟨rfl, New.trans n124 n15, ?_⟩)
                  (Wl.buildSlice1 (R := one vi) (y := S.laid + 1) (Pe := No) gdInt rfl rfl rfl rfl (by omega) (by omega) fun mv w15 oM n15 s15' hob15 => Wl.nil ⟨rfl, New.trans n124 n15, ?_⟩)
                · have n125 := New.trans n124 n15
                  have s15 := n15.size
                  refine Wg.one rfl rfl rfl rfl rfl (Wl.buildSlice1 (R := one vi) (y := S.laid + 1) (Pe := No) gdInt rfl rfl rfl rfl (by omega) (by omega) fun mv w16 oM n16 s16' hob16 => Wl.nil ⟨rfl, New.trans n125 n16, K _ _ ⟨v15, mv, ⟨rfl, rfl, rfl, rfl, trivial⟩, New.trans n125 n16, (o15.new (plain_one _) n16).reblk fun b _ e => by rcases e with e | e <;> omega, oM.reblk fun b _ e => by omega⟩⟩)
                · have n125 := New.trans n124 n15
                  have s15 := n15.size
                  refine Wg.one rfl rfl rfl rfl rfl (Wl.appendZ (Pe := No) gdInt ((n15.block _ (by have := heap_lt hg14; omega) id).trans hg14) (hnk _ n125) (fun y cs hy => hy) rfl rfl (by omega) (by simp only [maxLen, List.length_map]; omega) (by simp only [List.length_map]; omega) fun v16 w16 o16 n16 => Wl.nil ⟨rfl, New.trans n125 n16, K _ _ ⟨v16, mv, ⟨rfl, rfl, rfl, rfl, trivial⟩, New.trans n125 n16, o16.reblk fun b _ e => by rcases e with e | e <;> omega, (oM.new (plain_one _) n16).reblk fun b _ e => by omega⟩⟩)
              · have n124 := New.trans n13 n14
                have s14 := n14.size
                refine Wg.one rfl rfl rfl rfl rfl (Wl.buildSliceE fun w15 hg15 n15 => Wl.nil ⟨rfl, New.trans n124 n15, ?_⟩)
                have n125 := New.trans n124 n15
                have s15 := n15.size
                refine Wg.one rfl rfl rfl rfl rfl (Wl.appendZ (Pe := No) gdInt hg15 (hnk _ n125) (fun y cs hy => hy) rfl rfl (by omega) (by simp only [maxLen, List.length_map]; omega) (by simp only [List.length_map]; omega) fun v16 w16 o16 n16 => Wl.nil ⟨rfl, New.trans n125 n16, K _ _ ⟨v16, mv, ⟨rfl, rfl, rfl, rfl, trivial⟩, New.trans n125 n16, o16.reblk fun b _ e => by rcases e with e | e <;> omega, (oM.new (plain_one _) (New.trans n15 n16)).reblk fun b _ e => by omega⟩⟩)
          · rintro F w16 ⟨v16, hag, b16, r16, c16⟩
            rw [← upds_of_agrees hag]
            simp only [upds]
            have k16 : Keep (fun b => Pm b ∨ w.heap.size ≤ b) w12 w16 := c16.keep fun b _ e1 e2 => hx5 b e1 e2
            have s16 := c16.size
            (repeat' (first | refine Wl.moveE (by conv => { lhs; whnf }) ?_ | refine Wc.seq ?_ | refine Wc.region ?_ | refine Wl.nilP rfl ?_ | refine Wl.fieldAddr rfl rfl ?_))
            refine Wl.load1 rfl (b16.cell (o := 3) rfl) ?_
            (repeat' (first | refine Wl.assignE (by conv => { lhs; whnf }) ?_ | refine Wl.nil ?_ | refine Qseq.normal ?_ | refine Wc.ret ?_))
            refine Qfn.ret2 rfl rfl rfl ⟨_, rfl, rfl, ⟨fun b => (Pm b ∨ w.heap.size ≤ b) ∧ b < w16.heap.size, _, _, _, ⟨b16, (base12.keep stableNd k16).mono monoNd fun b hb e => ⟨e, hb⟩, ?_, ?_, fun e => hx5 bm e.1 rfl, fun b e => e.2⟩, fun b e => e.1⟩, ?_⟩
            · show RdS rPc 3 _ w16 v12 (List.map _ (S.rows ++ [_]))
              rw [List.map_append]
              exact (r12.keep stPc k16).mono moPc fun b hb e => ⟨e, hb⟩
            · show RdS (one vi) 1 _ w16 v16 (List.map _ (S.rows ++ [_]))
              rw [List.map_append]
              exact r16.mono (mono_one _) fun b hb e => ⟨e, hb⟩
            · exact Chg.trans (Chg.trans (Chg.trans n04.any c5 fun _ _ e => e) c12 fun _ _ e => e) c16 fun _ _ e => e
end Go.Proofs.YtjpebmgllfiloaaDoor

namespace Go.Proofs.YtjpebmgllfiloaaDoor
open Go Wk
open Go.RowKit (Below)
attribute [local irreducible] Go.Calls

theorem keepSep2 {α : Type} {R : Rel α} {e : TypeId} {sz : Nat} {Pb Pe : Nat → Prop} {w w' : World} {v u : Value} {xs : List α} (hs : Stable R) (hm : Mono R) (h : OwnS R e sz Pb Pe w v xs) (c : Chg (fun b => u.ownBlock = some b) w w') (sp : Sep v u) (hE : ∀ b, b < w.heap.size → Pe b → u.ownBlock ≠ some b) : OwnS R e sz Pb Pe w' v xs := by
  have h1 := h.reblk (Pb' := fun b => Pb b ∧ u.ownBlock ≠ some b) fun b e hb => ⟨hb, sp b e⟩
  have h2 := h1.mono hm (fun _ _ e => e) (Pe' := fun b => Pe b ∧ u.ownBlock ≠ some b) fun b hb e => ⟨e, hE b hb e⟩
  exact (h2.keep hs (c.keep fun b _ e1 e2 => e1.2 e2) (c.keep fun b _ e1 e2 => e1.2 e2)).mono hm (fun _ _ e => e.1) fun _ _ e => e.1
set_option maxHeartbeats 4000000 in
set_option maxRecDepth 4000 in
theorem TakeRf_spec {Pm : Nat → Prop} {w : World} {bm : Nat} {S : Stk} {bv pv nv : Value} {i : Nat} {n : Int} (h : RfAt Pm w bm S bv pv nv) (I : StI S i) :
    Calls Tryd.prog 34 #[ptrV bm, vi n] w (Ret fun r w' => r = vi (stkTake S n).2 ∧ (∃ Pm' bv' pv' nv', RfAt Pm' w' bm (stkTake S n).1 bv' pv' nv' ∧ ∀ b, Pm' b → Pm b ∨ w.heap.size ≤ b) ∧ Chg (fun b => b = bm) w w') := by
  obtain ⟨ra, rc, rfl, hrc1, hrc2⟩ := h.pcs.form
  obtain ⟨ma, mc, rfl, hmc1, hmc2⟩ := h.nums.form
  simp only [List.length_map] at hrc1 hmc1 h ⊢
  have hlen := I.len
  have hbm := h.bk.lt
  have hlt := h.lt
  refine calls_of_Wc Tryd.func34 rfl Tryd.ntmps34 rfl ?_
  (repeat' (first | refine Wl.assignE (by conv => { lhs; whnf }) ?_ | refine Wl.nil ?_ | refine Qseq.normal ?_ | refine Wc.seq ?_ | refine Wc.region ?_ | refine Wc.block ?_))
  refine Wc.loop (σ := Nat × Value × Value) (fun s => [(0, ptrV bm), (1, vi n), (5, s.2.1), (6, s.2.2), (7, vi s.1)])
    (fun s w' => s.1 ≤ S.rows.length ∧ OwnS rPc 25 3 (fun b => w.heap.size ≤ b) Pm w' s.2.1 (((S.rows.take s.1).filter fun r => decide (r.n ≠ n)).map (·.piece)) ∧ OwnS (one vi) 3 1 (fun b => w.heap.size ≤ b) No w' s.2.2 (((S.rows.take s.1).filter fun r => decide (r.n ≠ n)).map (·.n)) ∧ Sep s.2.1 s.2.2 ∧ New w w') (fun s => S.rows.length - s.1)
    (0, .slice none 0 0, .slice none 0 0) ⟨rfl, rfl, rfl, rfl, rfl, trivial⟩ ⟨Nat.zero_le _, OwnS.nil, OwnS.nil, (by intro k e; cases e), Chg.refl _ _⟩ ?_
  rintro ⟨k, qv, mv⟩ G w1 ⟨hk, oq, om, sp, n1⟩
  dsimp only at hk oq om sp n1
  have h1 := h.new n1
  have s1 := n1.size
  have hfl := List.length_filter_le (fun r : SRow => decide (r.n ≠ n)) (S.rows.take k)
  rw [List.length_take] at hfl
  obtain ⟨qa, qc, rfl, _, _⟩ := oq.form
  obtain ⟨ua, uc, rfl, _, _⟩ := om.form
  have hnl : (S.rows.map (·.n)).length = S.rows.length := List.length_map _
  simp only [upds]
  (repeat' (first | refine Wl.moveE (by conv => { lhs; whnf }) ?_ | refine Wc.seq ?_ | refine Wc.region ?_ | refine Wl.nilP rfl ?_ | refine Wl.fieldAddr rfl rfl ?_))
  refine Wl.load1 rfl (h1.bk.cell (o := 2) rfl) ?_
  (repeat' (first | refine Wl.moveE (by conv => { lhs; whnf }) ?_ | refine Wl.nil ?_ | refine Wl.lenS rfl ?_ | refine Qseq.normal ?_ | refine Wc.seq ?_ | refine Wc.region ?_ | refine Wc.block ?_ | refine Wc.skip ?_ | refine Wc.exit ?_ | refine Qseq.exit ?_ | refine Qblk.hit ?_ | refine Qloop.exit ?_ | refine Wc.condT rfl ?_ | refine Wc.condF rfl ?_ | refine Wl.nilP rfl ?_ | refine Wl.fieldAddr rfl rfl ?_ | refine Wl.lss rfl rfl (fun _ => ?_) (fun _ => ?_)))
  · obtain ⟨r, hr⟩ := get_lt S.rows (k := k) (by omega)
    have hrn : (S.rows.map (·.n))[((k : Int)).toNat]? = some r.n := by rw [Int.toNat_natCast, List.getElem?_map, hr]; rfl
    have hrp : (S.rows.map (·.piece))[((k : Int)).toNat]? = some r.piece := by rw [Int.toNat_natCast, List.getElem?_map, hr]; rfl
    refine Wl.load1 rfl (h1.bk.cell (o := 2) rfl) ?_
    (repeat' (refine Wl.moveE (by conv => { lhs; whnf }) ?_))
    refine Wl.idxAddrV h1.nums rfl rfl (by omega) hrn fun b o hc => ?_
    refine Wl.load1 rfl hc ?_
    (repeat' (first | refine Wl.moveE (by conv => { lhs; whnf }) ?_ | refine Wl.assignE (by conv => { lhs; whnf }) ?_ | refine Wl.nil ?_ | refine Qseq.normal ?_ | refine Wc.seq ?_ | refine Wc.region ?_ | refine Wc.skip ?_ | refine Qblk.normal ?_ | refine Wc.condT rfl ?_ | refine Wc.condF rfl ?_ | refine Wl.nilP rfl ?_ | refine Wl.fieldAddr rfl rfl ?_ | refine Wl.add rfl rfl (by omega) (by omega) ?_ | refine Wl.neq rfl rfl (fun _ => ?_) (fun _ => ?_)))
    · rename_i hne
      have hfs : ((S.rows.take (k + 1)).filter fun r => decide (r.n ≠ n)) = ((S.rows.take k).filter fun r => decide (r.n ≠ n)) ++ [r] := by
        rw [take_snoc hr, List.filter_append]
        congr 1
        simp [hne]
      refine Wl.load1 rfl (h1.bk.cell (o := 1) rfl) ?_
      (repeat' (refine Wl.moveE (by conv => { lhs; whnf }) ?_))
      refine Wl.idxAddr h1.pcs rfl rfl (by omega) hrp fun b o cs hcl hR hat => ?_
      obtain ⟨⟨nv', dv', rfl, hn, hd⟩⟩ := hR
      refine Wl.loadAt hat rfl rfl ?_
      refine Wl.append1 (R := rPc) (y := r.piece) (cs := [vs r.piece.target, nv', dv']) gdPc oq rfl rfl rfl rfl (moPc _ _ _ _ _ (fun b hb e => ⟨e, fun e2 => by have := (oq.lt e2).1; have := hlt b e; omega⟩) ⟨⟨nv', dv', rfl, hn, hd⟩⟩) (by omega) (by omega) (by rw [List.length_map]; simp only [maxLen]; omega) (by rw [List.length_map]; omega) rfl rfl fun qv2 w2 p2 o2 c2 lie2 => ?_
      have n2 : New w w2 := Chg.trans n1 c2 fun b hb e => by have := (oq.lt e).1; omega
      have h2 := h.new n2
      have s2 := c2.size
      have om2 := om.keepSep (plain_one _) c2 sp.symm
      have sp2 : Sep qv2 (.slice ua _ uc) := (sepGrown om sp.symm lie2).symm
      have o2' := o2.reblk (Pb' := fun b => w.heap.size ≤ b) fun b _ e => by rcases e with e | e <;> omega
      (repeat' (first | refine Wl.moveE (by conv => { lhs; whnf }) ?_ | refine Wl.assignE (by conv => { lhs; whnf }) ?_ | refine Wl.nil ?_ | refine Qseq.normal ?_ | refine Wc.region ?_ | refine Wl.nilP rfl ?_ | refine Wl.fieldAddr rfl rfl ?_))
      refine Wl.load1 rfl (h2.bk.cell (o := 2) rfl) ?_
      (repeat' (refine Wl.moveE (by conv => { lhs; whnf }) ?_))
      refine Wl.idxAddrV h2.nums rfl rfl (by omega) hrn fun b o hc => ?_
      refine Wl.load1 rfl hc ?_
      refine Wl.append1 (R := one vi) (y := r.n) (cs := [vi r.n]) gdInt om2 rfl rfl rfl rfl rfl (by omega) (by omega) (by rw [List.length_map]; simp only [maxLen]; omega) (by rw [List.length_map]; omega) rfl rfl fun mv3 w3 p3 o3 c3 lie3 => ?_
      have n3 : New w w3 := Chg.trans n2 c3 fun b hb e => by have := (om2.lt e).1; omega
      have o23 := keepSep2 stPc moPc o2' c3 sp2 fun b hb e e2 => by have := (om2.lt e2).1; have := hlt b e; omega
      have sp3 := sepGrown o2' sp2 lie3
      (repeat' (first | refine Wl.moveE (by conv => { lhs; whnf }) ?_ | refine Wl.assignE (by conv => { lhs; whnf }) ?_ | refine Wl.nil ?_ | refine Qseq.normal ?_ | refine Wc.region ?_ | refine Qblk.normal ?_ | refine Wl.add rfl rfl (by omega) (by omega) ?_))
      refine Qloop.normal (k + 1, qv2, mv3) ⟨rfl, rfl, rfl, rfl, rfl, trivial⟩ ⟨by dsimp only; omega, ?_, ?_, sp3, n3⟩ (by dsimp only; omega)
      · dsimp only
        rw [hfs, List.map_append]
        exact o23
      · dsimp only
        rw [hfs, List.map_append]
        exact o3.reblk fun b _ e => by rcases e with e | e <;> omega
    · rename_i heq
      have hfs : ((S.rows.take (k + 1)).filter fun r => decide (r.n ≠ n)) = ((S.rows.take k).filter fun r => decide (r.n ≠ n)) := by
        rw [take_snoc hr, List.filter_append]
        simp [heq]
      refine Qloop.normal (k + 1, _, _) ⟨rfl, rfl, rfl, rfl, rfl, trivial⟩ ⟨by dsimp only; omega, ?_, ?_, sp, n1⟩ (by dsimp only; omega)
      · dsimp only; rw [hfs]; exact oq
      · dsimp only; rw [hfs]; exact om
  · have ek : k = S.rows.length := by omega
    subst ek
    rw [List.take_length] at oq om hfl ⊢
    have hT := take_ref I n
    generalize hfil : (S.rows.filter fun r => decide (r.n ≠ n)) = fl at *
    refine Wl.load1 rfl (h1.bk.cell (o := 2) rfl) ?_
    simp only [List.length_map] at oq om ⊢
    (repeat' (first | refine Wl.moveE (by conv => { lhs; whnf }) ?_ | refine Wl.assignE (by conv => { lhs; whnf }) ?_ | refine Wl.nil ?_ | refine Wl.lenS rfl ?_ | refine Qseq.normal ?_ | refine Wc.seq ?_ | refine Wc.region ?_ | refine Wc.skip ?_ | refine Wc.ret ?_ | refine Qseq.ret ?_ | refine Wc.condT rfl ?_ | refine Wc.condF rfl ?_ | refine Wl.eql rfl rfl (fun _ => ?_) (fun _ => ?_)))
    · rename_i he
      rcases hT with ⟨_, hT⟩ | ⟨hT, _⟩
      · rw [hT]
        exact Qfn.ret1 rfl rfl ⟨_, rfl, rfl, ⟨Pm, _, _, _, h1, fun _ e => .inl e⟩, n1.any⟩
      · exact absurd (by omega) hT
    · rename_i hne
      rcases hT with ⟨hT, _⟩ | ⟨_, hT2, hT3, hT4⟩
      · exact absurd (by omega) hne
      have rq := oq.rd moPc
      rw [← List.length_map (f := fun r : SRow => r.piece)] at rq
      refine Wl.call (treeRf_spec h1 I.base rq) (by rw [List.length_map]; rfl) ?_
      rintro _ w2 ⟨v2, rfl, r2, n2⟩
      rw [hT2]
      have n02 := New.trans n1 n2
      have h2 := h.new n02
      have s2 := n2.size
      have oq2 := oq.keep stPc n2.keep n2.keep
      have om2 := om.new (plain_one _) n2
      (repeat' (first | refine Wl.moveE (by conv => { lhs; whnf }) ?_ | refine Wl.assignE (by conv => { lhs; whnf }) ?_ | refine Wl.nil ?_ | refine Wl.extract rfl rfl ?_ | refine Qseq.normal ?_ | refine Wc.seq ?_ | refine Wc.region ?_ | refine Wc.skip ?_ | refine Wc.ret ?_ | refine Qseq.ret ?_ | refine Wc.condT rfl ?_ | refine Wc.condF rfl ?_ | refine Wl.nilP rfl ?_ | refine Wl.fieldAddr rfl rfl ?_ | refine Wl.neq rfl rfl (fun _ => ?_) (fun _ => ?_)))
      · rename_i he
        rw [hT3 he]
        exact Qfn.ret1 rfl rfl ⟨_, rfl, rfl, ⟨Pm, _, _, _, h2, fun _ e => .inl e⟩, n02.any⟩
      · rename_i he
        obtain ⟨g1, g2, g3, g4, g5⟩ := hT4 he
        refine Wl.store1 h2.bk rfl (show (1 : Nat) < 4 by omega) rfl rfl fun w3 b3 c3 => ?_
        (repeat' (first | refine Wl.moveE (by conv => { lhs; whnf }) ?_ | refine Wl.nil ?_ | refine Qseq.normal ?_ | refine Wc.seq ?_ | refine Wc.region ?_ | refine Wl.nilP rfl ?_ | refine Wl.fieldAddr rfl rfl ?_))
        refine Wl.store1 b3 rfl (show (2 : Nat) < 4 by omega) rfl rfl fun w4 b4 c4 => ?_
        (repeat' (first | refine Wl.assignE (by conv => { lhs; whnf }) ?_ | refine Wl.nil ?_ | refine Qseq.normal ?_ | refine Wc.seq ?_ | refine Wc.region ?_ | refine Wc.ret ?_))
        have hx : ∀ b, (Pm b ∨ w.heap.size ≤ b) → b ≠ bm := fun b e => by
          rcases e with e | e
          · intro e2; subst e2; exact h.nb e
          · omega
        have c24 : Chg (fun b => b = bm) w2 w4 := Chg.trans c3 c4 fun _ _ e => e
        have k24 : Keep (fun b => Pm b ∨ w.heap.size ≤ b) w2 w4 := c24.keep fun b _ e1 e2 => hx b e1 e2
        have s4 := c24.size
        rw [he]
        refine Qfn.ret1 rfl rfl ⟨_, rfl, rfl, ⟨fun b => (Pm b ∨ w.heap.size ≤ b) ∧ b < w4.heap.size, _, _, _, ⟨by rw [g2]; exact b4, ?_, ?_, ?_, fun e => hx bm e.1 rfl, fun b e => e.2⟩, fun b e => e.1⟩, Chg.trans n02.any c24 fun _ _ e => e⟩
        · rw [g1]
          exact ((h2.base.mono monoNd (Pb' := fun b => Pm b ∨ w.heap.size ≤ b) fun b _ e => .inl e).keep stableNd k24).mono monoNd fun b hb e => ⟨e, hb⟩
        · rw [g3]
          exact (((oq2.rd moPc).mono moPc (Pb' := fun b => Pm b ∨ w.heap.size ≤ b) fun b _ e => by rcases e with e | e; exact .inr e; exact .inl e).keep stPc k24).mono moPc fun b hb e => ⟨e, hb⟩
        · rw [g4]
          exact (((om2.rd (mono_one _)).mono (mono_one _) (Pb' := fun b => Pm b ∨ w.heap.size ≤ b) fun b _ e => by rcases e with e | e; exact .inr e; exact e.elim).keep (stable_one _) k24).mono (mono_one _) fun b hb e => ⟨e, hb⟩
theorem numbers_spec {Pa Pb : Nat → Prop} {w : World} {av bv : Value} {l : List Int} (ha : RdS (one vi) 1 Pa w av l) (hb : RdS (one vi) 1 Pb w bv l) :
    Calls Tryd.prog 60 #[av, bv] w (Ret fun r w' => r = .bool true ∧ New w w') := by
  obtain ⟨aa, ac, rfl, hac1, hac2⟩ := ha.form
  obtain ⟨ba, bc, rfl, _, _⟩ := hb.form
  simp only [maxLen] at hac2
  refine calls_of_Wc Tryd.func60 rfl Tryd.ntmps60 rfl ?_
  (repeat' (first | refine Wl.moveE (by conv => { lhs; whnf }) ?_ | refine Wl.assignE (by conv => { lhs; whnf }) ?_ | refine Wl.nil ?_ | refine Wl.lenS rfl ?_ | refine Qseq.normal ?_ | refine Wc.seq ?_ | refine Wc.region ?_ | refine Wc.block ?_ | refine Wc.skip ?_ | refine Wc.condF rfl ?_ | (refine Wl.neq rfl rfl (fun _ => ?_) (fun _ => ?_) <;> (first | (exfalso; omega) | skip))))
  refine Wc.loop (σ := Nat) (fun i => [(0, .slice aa l.length ac), (1, .slice ba l.length bc), (5, vi i)]) (fun i w' => i ≤ l.length ∧ New w w') (fun i => l.length - i) 0 ⟨rfl, rfl, rfl, trivial⟩ ⟨Nat.zero_le _, Chg.refl _ _⟩ ?_
  rintro i G w1 ⟨hi, n1⟩
  have ha1 := ha.keep (stable_one _) n1.keep
  have hb1 := hb.keep (stable_one _) n1.keep
  simp only [upds]
  (repeat' (first | refine Wl.moveE (by conv => { lhs; whnf }) ?_ | refine Wl.assignE (by conv => { lhs; whnf }) ?_ | refine Wl.nil ?_ | refine Wl.lenS rfl ?_ | refine Qseq.normal ?_ | refine Wc.seq ?_ | refine Wc.region ?_ | refine Wc.block ?_ | refine Wc.skip ?_ | refine Wc.exit ?_ | refine Wc.ret ?_ | refine Qseq.exit ?_ | refine Qblk.hit ?_ | refine Qloop.exit ?_ | refine Wc.condT rfl ?_ | refine Wc.condF rfl ?_ | refine Wl.lss rfl rfl (fun _ => ?_) (fun _ => ?_)))
  · obtain ⟨x, hx⟩ := get_lt l (k := i) (by omega)
    refine Wc.regionN rfl (by kernel_rfl) ?_
    (repeat' (refine Wq.moveE (by conv => { lhs; whnf }) ?_))
    refine Wq.idxAddrV ha1 (fun w' hw => New.keep hw) rfl rfl (by omega) hx fun b o hc => ?_
    refine Wq.load1 rfl hc ?_
    (repeat' (refine Wq.moveE (by conv => { lhs; whnf }) ?_))
    refine Wq.idxAddrV hb1 (fun w' hw => New.keep hw) rfl rfl (by omega) hx fun b o hc => ?_
    refine Wq.load1 rfl hc ?_
    (repeat' (first | refine Wq.nil ?_ | (refine Wq.neq rfl rfl (fun _ => ?_) (fun _ => ?_) <;> (first | (exfalso; omega) | skip))))
    intro w2 n2
    (repeat' (first | refine Wl.moveE (by conv => { lhs; whnf }) ?_ | refine Wl.assignE (by conv => { lhs; whnf }) ?_ | refine Wl.nil ?_ | refine Qseq.normal ?_ | refine Wc.region ?_ | refine Wc.skip ?_ | refine Qblk.normal ?_ | refine Wc.condF rfl ?_ | refine Wl.add rfl rfl (by omega) (by omega) ?_))
    exact Qloop.normal (i + 1) ⟨rfl, rfl, rfl, trivial⟩ ⟨by omega, New.trans n1 n2⟩ (by omega)
  · exact Qfn.ret1 rfl rfl ⟨_, rfl, rfl, n1⟩
set_option maxRecDepth 4000 in
theorem Lying_spec {lo : Nat} {lab : SLab} {w : World} {bl : Nat} {S : Stk} {bv rv : Value} (h : StkAt lo lab w bl S bv rv) (hl : S.rows.length ≤ 16) :
    Calls Tryd.prog 36 #[ptrV bl] w (Ret fun r w' => OwnS (one vi) 3 1 (fun b => w.heap.size ≤ b) No w' r (S.rows.map (·.n)) ∧ New w w') := by
  obtain ⟨ra, rc, rfl, hrc1, hrc2⟩ := h.rows.form
  refine calls_of_Wc Tryd.func36 rfl Tryd.ntmps36 rfl ?_
  (repeat' (first | refine Wl.moveE (by conv => { lhs; whnf }) ?_ | refine Wl.assignE (by conv => { lhs; whnf }) ?_ | refine Wl.nil ?_ | refine Qseq.normal ?_ | refine Wc.seq ?_ | refine Wc.region ?_))
  refine Wl.peqNil rfl rfl ?_
  (repeat' (first | refine Wl.moveE (by conv => { lhs; whnf }) ?_ | refine Wl.nil ?_ | refine Qseq.normal ?_ | refine Wc.seq ?_ | refine Wc.region ?_ | refine Wc.skip ?_ | refine Wc.condF rfl ?_ | refine Wl.nilP rfl ?_ | refine Wl.fieldAddr rfl rfl ?_))
  refine Wl.load1 rfl (h.bk.cell (o := 1) rfl) ?_
  (repeat' (refine Wl.lenS rfl ?_))
  refine Wl.make0 (R := one vi) (Pe := No) rfl rfl (by omega) (by omega) (by omega) fun v1 w1 o1 n1 => ?_
  have h1 := h.new n1
  (repeat' (first | refine Wl.moveE (by conv => { lhs; whnf }) ?_ | refine Wl.assignE (by conv => { lhs; whnf }) ?_ | refine Wl.nil ?_ | refine Qseq.normal ?_ | refine Wc.seq ?_ | refine Wc.region ?_ | refine Wl.nilP rfl ?_ | refine Wl.fieldAddr rfl rfl ?_))
  refine Wl.load1 rfl (h1.bk.cell (o := 1) rfl) ?_
  (repeat' (first | refine Wl.moveE (by conv => { lhs; whnf }) ?_ | refine Wl.nil ?_ | refine Wl.lenS rfl ?_ | refine Qseq.normal ?_ | refine Wc.block ?_))
  refine Wc.loop (σ := Nat × Value) (fun s => [(3, s.2), (17, .slice ra S.rows.length rc), (18, vi S.rows.length), (19, vi s.1)])
    (fun s w' => s.1 ≤ S.rows.length ∧ OwnS (one vi) 3 1 (fun b => w.heap.size ≤ b) No w' s.2 ((S.rows.take s.1).map (·.n)) ∧ New w w') (fun s => S.rows.length - s.1) (0, v1) ⟨rfl, rfl, rfl, rfl, trivial⟩ ⟨Nat.zero_le _, o1, n1⟩ ?_
  rintro ⟨k, v⟩ G w2 ⟨hk, o2, n2⟩
  dsimp only at hk o2 n2
  have h2 := h.new n2
  have s2 := n2.size
  obtain ⟨va, vc, rfl, _, _⟩ := o2.form
  simp only [upds]
  (repeat' (first | refine Wl.moveE (by conv => { lhs; whnf }) ?_ | refine Wl.assignE (by conv => { lhs; whnf }) ?_ | refine Wl.nil ?_ | refine Qseq.normal ?_ | refine Wc.seq ?_ | refine Wc.region ?_ | refine Wc.block ?_ | refine Wc.skip ?_ | refine Wc.exit ?_ | refine Wc.ret ?_ | refine Qseq.exit ?_ | refine Qblk.hit ?_ | refine Qloop.exit ?_ | refine Wc.condT rfl ?_ | refine Wc.condF rfl ?_ | refine Wl.lss rfl rfl (fun _ => ?_) (fun _ => ?_)))
  · obtain ⟨r, hr⟩ := get_lt S.rows (k := k) (by omega)
    refine Wl.idxAddr h2.rows.rdE rfl rfl (by omega) (y := r) (by rw [Int.toNat_natCast]; exact hr) fun b o cs hl' hR hat => ?_
    obtain ⟨nv, dv, tv, rfl, q1, q2, q3⟩ := hR
    obtain ⟨_, _, rfl, _, _⟩ := q1.form
    obtain ⟨_, _, rfl, _, _⟩ := q2.form
    obtain ⟨_, _, rfl, _, _⟩ := q3.form
    refine Wl.loadAt hat rfl rfl ?_
    refine Wl.alloc fun w3 b3 n3 s3 => ?_
    refine Wl.storeB (new := _) b3 rfl rfl rfl rfl (show (5 : Nat) ≤ 5 from Nat.le_refl 5) (by intro c hc; simp at hc; rcases hc with rfl | rfl | rfl | rfl | rfl <;> rfl) fun w4 b4 c4 s4 => ?_
    have n4 : New w w4 := Chg.trans (New.trans n2 n3) c4 fun b hb e => by omega
    have o4 := (o2.new (plain_one _) n3).chg (plain_one _) c4 fun b e1 e2 => by have := (o2.lt e1).2; omega
    (repeat' (first | refine Wl.moveE (by conv => { lhs; whnf }) ?_ | refine Wl.nil ?_ | refine Qseq.normal ?_ | refine Wc.region ?_ | refine Wl.fieldAddr rfl rfl ?_))
    refine Wl.load1 rfl (b4.cell (o := 0) rfl) ?_
    refine Wl.append1 (R := one vi) (y := r.n) (cs := [vi r.n]) gdInt o4 rfl rfl rfl rfl rfl (by omega) (by omega) (by rw [List.length_map, List.length_take]; simp only [maxLen]; omega) (by rw [List.length_map, List.length_take]; omega) rfl rfl fun v5 w5 p5 o5 c5 lie5 => ?_
    (repeat' (first | refine Wl.moveE (by conv => { lhs; whnf }) ?_ | refine Wl.assignE (by conv => { lhs; whnf }) ?_ | refine Wl.nil ?_ | refine Qseq.normal ?_ | refine Wc.region ?_ | refine Qblk.normal ?_ | refine Wl.add rfl rfl (by omega) (by omega) ?_))
    have s4' := n4.size
    refine Qloop.normal (k + 1, v5) ⟨rfl, rfl, rfl, rfl, trivial⟩ ⟨by dsimp only; omega, ?_, Chg.trans n4 c5 fun b hb e => by have := (o4.lt e).1; omega⟩ (by dsimp only; omega)
    dsimp only
    rw [take_snoc hr, List.map_append]
    exact o5.reblk fun b _ e => by rcases e with e | e <;> omega
  · rw [List.take_of_length_le (by omega : S.rows.length ≤ k)] at o2 ⊢
    exact Qfn.ret1 rfl rfl ⟨_, rfl, o2, n2⟩
end Go.Proofs.YtjpebmgllfiloaaDoor

namespace Go.Proofs.YtjpebmgllfiloaaDoor
open Go Wk
open Go.RowKit (Below)
attribute [local irreducible] Go.Calls

/-- The program's stack and the references', side by side. -/
structure Two (lo : Nat) (lab : SLab) (Pm : Nat → Prop) (w : World) (bl bm : Nat) (S : Stk) (bv rv cv pv nv : Value) : Prop where
  s : StkAt lo lab w bl S bv rv
  m : RfAt Pm w bm S cv pv nv
  dj : ∀ b, Pm b ∨ b = bm → lab b = none
theorem Two.new {lo : Nat} {lab : SLab} {Pm : Nat → Prop} {w w' : World} {bl bm : Nat} {S : Stk} {bv rv cv pv nv : Value} (h : Two lo lab Pm w bl bm S bv rv cv pv nv) (c : New w w') : Two lo lab Pm w' bl bm S bv rv cv pv nv := ⟨h.s.new c, h.m.new c, h.dj⟩
set_option maxHeartbeats 4000000 in
set_option maxRecDepth 8000 in
theorem asked_spec {lo : Nat} {lab : SLab} {Pm : Nat → Prop} {w : World} {bl bm i : Nat} {S : Stk} {bv rv cv pv nv : Value} (T : Two lo lab Pm w bl bm S bv rv cv pv nv) (I : StI S i) (hi : i ≤ 1000000) :
    Calls Tryd.prog 35 #[ptrV bl, ptrV bm] w (Ret fun r w' => r = .bool true ∧ New w w') := by
  have wf := I.wf hi
  have hlen := I.len
  have hnl : (S.rows.map (·.n)).length = S.rows.length := List.length_map _
  obtain ⟨ca, cc, rfl, _, _⟩ := T.m.base.form
  obtain ⟨na, nc, rfl, _, _⟩ := T.m.nums.form
  have htop := stkTop_ok wf (Nat.le_refl S.rows.length)
  have shT := short_ok htop
  have shB := short_ok wf.base
  have lT := tree_lens htop
  have lB := tree_lens wf.base
  refine calls_of_Wc Tryd.func35 rfl Tryd.ntmps35 rfl ?_
  (repeat' (first | refine Wl.moveE (by conv => { lhs; whnf }) ?_ | refine Wl.assignE (by conv => { lhs; whnf }) ?_ | refine Wl.nil ?_ | refine Qseq.normal ?_ | refine Wc.seq ?_ | refine Wc.region ?_))
  refine Wl.call (Lying_spec T.s hlen) rfl ?_
  rintro av w1 ⟨oa, n1⟩
  have T1 := T.new n1
  (repeat' (first | refine Wl.moveE (by conv => { lhs; whnf }) ?_ | refine Wl.assignE (by conv => { lhs; whnf }) ?_ | refine Wl.nil ?_ | refine Qseq.normal ?_ | refine Wc.seq ?_ | refine Wc.region ?_))
  refine Wl.call (Lying_spec T1.s hlen) rfl ?_
  rintro dv w2 ⟨od, n2⟩
  have T2 := T1.new n2
  have oa2 := oa.new (plain_one _) n2
  have n02 := New.trans n1 n2
  have s1 := n1.size
  have s2 := n2.size
  have spad : Sep av dv := fun b e1 e2 => by have := (oa.lt e1).2; have := (od.lt e2).1; omega
  obtain ⟨aa, ac, rfl, _, _⟩ := oa2.form
  obtain ⟨da, dc, rfl, _, _⟩ := od.form
  have hlab : ∀ b c, lab b = some c → b < w.heap.size := fun b c e => (T.s.low b c e).2
  have hPm : ∀ b, Pm b → b < w.heap.size := T.m.lt
  have hbm : bm < w.heap.size := T.m.bk.lt
  clear T T1 oa
  (repeat' (first | refine Wl.assignE (by conv => { lhs; whnf }) ?_ | refine Wl.nil ?_ | refine Qseq.normal ?_))
  refine Wc.cut (fun F w' => agrees F [(0, ptrV bl), (1, ptrV bm), (5, .slice aa (S.rows.map (·.n)).length ac), (6, .slice da (S.rows.map (·.n)).length dc)] ∧ New w2 w') ?_ ?_
  · refine Wc.cut (fun F w' => agrees F [(0, ptrV bl), (1, ptrV bm), (5, .slice aa (S.rows.map (·.n)).length ac), (6, .slice da (S.rows.map (·.n)).length dc), (50, .bool false)] ∧ New w2 w') ?_ ?_
    · refine Wc.regionG (m := 38) rfl (by kernel_rfl) (New w2) (Chg.drew _ _) rfl ?_
      intro w3 n3
      show Wg _ _ _ _ _ _ _ [0, 1, 2, 3, 4, 5, 6, 7, 8, 9, 10, 11, 12, 13, 14, 15, 16, 17, 18, 19, 20, 21, 22, 23, 24, 25, 26, 27, 28, 29, 30, 31, 32, 33, 34, 35, 36, 37] _ _
      (repeat' (first | refine Wg.nil ?_ | (refine Wg.qh rfl rfl rfl ?_; (try refine Wq.guardY rfl rfl ?_); (first | refine Wq.moveE (by conv => { lhs; whnf }) ?_ | refine Wq.assignE (by conv => { lhs; whnf }) ?_ | refine Wq.extract rfl rfl ?_ | refine Wq.pickTE rfl (by conv => { lhs; whnf }) ?_ | refine Wq.pickFE rfl (by conv => { lhs; whnf }) ?_ | refine Wq.notB rfl ?_ | refine Wq.lenS rfl ?_ | refine Wq.lenStr rfl ?_ | refine Wq.nilP rfl ?_ | refine Wq.fieldAddr rfl rfl ?_ | refine Wq.add rfl rfl (by omega) (by omega) ?_ | refine Wq.sub rfl rfl (by omega) (by omega) ?_ | refine Wq.mul rfl rfl (by omega) (by omega) ?_ | refine Wq.convI rfl ?_ | (refine Wq.lss rfl rfl (fun _ => ?_) (fun _ => ?_) <;> (first | (exfalso; omega) | (exfalso; contradiction) | skip)) | (refine Wq.leq rfl rfl (fun _ => ?_) (fun _ => ?_) <;> (first | (exfalso; omega) | (exfalso; contradiction) | skip)) | (refine Wq.gtr rfl rfl (fun _ => ?_) (fun _ => ?_) <;> (first | (exfalso; omega) | (exfalso; contradiction) | skip)) | (refine Wq.geq rfl rfl (fun _ => ?_) (fun _ => ?_) <;> (first | (exfalso; omega) | (exfalso; contradiction) | skip)) | (refine Wq.eql rfl rfl (fun _ => ?_) (fun _ => ?_) <;> (first | (exfalso; omega) | (exfalso; contradiction) | skip)) | (refine Wq.neq rfl rfl (fun _ => ?_) (fun _ => ?_) <;> (first | (exfalso; omega) | (exfalso; contradiction) | skip)) | (refine Wq.seql rfl rfl (fun _ => ?_) (fun _ => ?_) <;> (first | (exfalso; omega) | (exfalso; contradiction) | skip)) | (refine Wq.sneq rfl rfl (fun _ => ?_) (fun _ => ?_) <;> (first | (exfalso; omega) | (exfalso; contradiction) | skip))); all_goals (try refine Wq.nil ?_))))
      refine Wg.qh rfl rfl rfl (Wq.load1 rfl (fun w' hw => (T2.new hw).m.bk.cell (o := 2) rfl) (Wq.nil ?_))
      refine Wg.oneH rfl rfl rfl rfl rfl (Wl.call (numbers_spec ((oa2.new (plain_one _) n3).rd (mono_one _)) (T2.new n3).m.nums) rfl ?_)
      rintro _ w4 ⟨rfl, n4'⟩
      have n4 := New.trans n3 n4'
      refine Wl.nil ⟨rfl, n4, ?_⟩
      clear n4'
      (repeat' (first | refine Wg.nil ?_ | (refine Wg.qh rfl rfl rfl ?_; (try refine Wq.guardY rfl rfl ?_); (first | refine Wq.moveE (by conv => { lhs; whnf }) ?_ | refine Wq.assignE (by conv => { lhs; whnf }) ?_ | refine Wq.extract rfl rfl ?_ | refine Wq.pickTE rfl (by conv => { lhs; whnf }) ?_ | refine Wq.pickFE rfl (by conv => { lhs; whnf }) ?_ | refine Wq.notB rfl ?_ | refine Wq.lenS rfl ?_ | refine Wq.lenStr rfl ?_ | refine Wq.nilP rfl ?_ | refine Wq.fieldAddr rfl rfl ?_ | refine Wq.add rfl rfl (by omega) (by omega) ?_ | refine Wq.sub rfl rfl (by omega) (by omega) ?_ | refine Wq.mul rfl rfl (by omega) (by omega) ?_ | refine Wq.convI rfl ?_ | (refine Wq.lss rfl rfl (fun _ => ?_) (fun _ => ?_) <;> (first | (exfalso; omega) | (exfalso; contradiction) | skip)) | (refine Wq.leq rfl rfl (fun _ => ?_) (fun _ => ?_) <;> (first | (exfalso; omega) | (exfalso; contradiction) | skip)) | (refine Wq.gtr rfl rfl (fun _ => ?_) (fun _ => ?_) <;> (first | (exfalso; omega) | (exfalso; contradiction) | skip)) | (refine Wq.geq rfl rfl (fun _ => ?_) (fun _ => ?_) <;> (first | (exfalso; omega) | (exfalso; contradiction) | skip)) | (refine Wq.eql rfl rfl (fun _ => ?_) (fun _ => ?_) <;> (first | (exfalso; omega) | (exfalso; contradiction) | skip)) | (refine Wq.neq rfl rfl (fun _ => ?_) (fun _ => ?_) <;> (first | (exfalso; omega) | (exfalso; contradiction) | skip)) | (refine Wq.seql rfl rfl (fun _ => ?_) (fun _ => ?_) <;> (first | (exfalso; omega) | (exfalso; contradiction) | skip)) | (refine Wq.sneq rfl rfl (fun _ => ?_) (fun _ => ?_) <;> (first | (exfalso; omega) | (exfalso; contradiction) | skip))); all_goals (try refine Wq.nil ?_))))
      refine Wg.qh rfl rfl rfl (Wq.guardY rfl rfl (Wq.load1 rfl (fun w' hw => (T2.new hw).m.bk.cell (o := 2) rfl) (Wq.nil ?_)))
      refine Wg.oneH rfl rfl rfl rfl rfl (Wl.guardY rfl rfl (Wl.call (numbers_spec ((od.new (plain_one _) n4).rd (mono_one _)) (T2.new n4).m.nums) rfl ?_))
      rintro _ w5 ⟨rfl, n5'⟩
      have n5 := New.trans n4 n5'
      refine Wl.nil ⟨rfl, n5, ?_⟩
      clear n5'
      (repeat' (first | refine Wg.nil ?_ | (refine Wg.qh rfl rfl rfl ?_; (try refine Wq.guardY rfl rfl ?_); (first | refine Wq.moveE (by conv => { lhs; whnf }) ?_ | refine Wq.assignE (by conv => { lhs; whnf }) ?_ | refine Wq.extract rfl rfl ?_ | refine Wq.pickTE rfl (by conv => { lhs; whnf }) ?_ | refine Wq.pickFE rfl (by conv => { lhs; whnf }) ?_ | refine Wq.notB rfl ?_ | refine Wq.lenS rfl ?_ | refine Wq.lenStr rfl ?_ | refine Wq.nilP rfl ?_ | refine Wq.fieldAddr rfl rfl ?_ | refine Wq.add rfl rfl (by omega) (by omega) ?_ | refine Wq.sub rfl rfl (by omega) (by omega) ?_ | refine Wq.mul rfl rfl (by omega) (by omega) ?_ | refine Wq.convI rfl ?_ | (refine Wq.lss rfl rfl (fun _ => ?_) (fun _ => ?_) <;> (first | (exfalso; omega) | (exfalso; contradiction) | skip)) | (refine Wq.leq rfl rfl (fun _ => ?_) (fun _ => ?_) <;> (first | (exfalso; omega) | (exfalso; contradiction) | skip)) | (refine Wq.gtr rfl rfl (fun _ => ?_) (fun _ => ?_) <;> (first | (exfalso; omega) | (exfalso; contradiction) | skip)) | (refine Wq.geq rfl rfl (fun _ => ?_) (fun _ => ?_) <;> (first | (exfalso; omega) | (exfalso; contradiction) | skip)) | (refine Wq.eql rfl rfl (fun _ => ?_) (fun _ => ?_) <;> (first | (exfalso; omega) | (exfalso; contradiction) | skip)) | (refine Wq.neq rfl rfl (fun _ => ?_) (fun _ => ?_) <;> (first | (exfalso; omega) | (exfalso; contradiction) | skip)) | (refine Wq.seql rfl rfl (fun _ => ?_) (fun _ => ?_) <;> (first | (exfalso; omega) | (exfalso; contradiction) | skip)) | (refine Wq.sneq rfl rfl (fun _ => ?_) (fun _ => ?_) <;> (first | (exfalso; omega) | (exfalso; contradiction) | skip))); all_goals (try refine Wq.nil ?_))))
      refine Wg.quiet (q := 19) (l' := [18, 20, 21, 22, 23, 24, 25, 26, 27, 28, 29, 30, 31, 32, 33, 34, 35, 36, 37]) rfl rfl rfl (Wq.guardY rfl rfl (Wq.moveE (by conv => { lhs; whnf }) (Wq.nil ?_)))
      refine Wg.quiet (q := 21) (l' := [18, 20, 22, 23, 24, 25, 26, 27, 28, 29, 30, 31, 32, 33, 34, 35, 36, 37]) rfl rfl rfl (Wq.guardY rfl rfl (Wq.moveE (by conv => { lhs; whnf }) (Wq.nil ?_)))
      have T5 := T2.new n5
      refine Wg.oneH rfl rfl rfl rfl rfl (Wl.guardY rfl rfl (Wl.call (Tree_spec T5.s wf) rfl ?_))
      rintro t6 w6 ⟨⟨lab6, pvs6, o6⟩, n6⟩
      have n26 := New.trans n5 n6
      refine Wl.nil ⟨rfl, n26, ?_⟩
      have T6 := T2.new n26
      refine Wg.oneH rfl rfl rfl rfl rfl (Wl.guardY rfl rfl (Wl.call (Tree_spec T6.s wf) rfl ?_))
      rintro t7 w7 ⟨⟨lab7, pvs7, o7⟩, n7⟩
      have n27 := New.trans n26 n7
      refine Wl.nil ⟨rfl, n27, ?_⟩
      have T7 := T2.new n27
      refine Wg.oneH rfl rfl rfl rfl rfl (Wl.guardY rfl rfl (Wl.call (TreeRf_spec T7.m I) rfl ?_))
      rintro t8 w8 ⟨r8, n8⟩
      have n28 := New.trans n27 n8
      refine Wl.nil ⟨rfl, n28, ?_⟩
      have s5 := n5.size
      have s6 := n6.size
      have s7 := n7.size
      have l6 : ∀ b, lab6 b ≠ none → w5.heap.size ≤ b ∧ b < w6.heap.size := fun b e => by
        cases hq : lab6 b with
        | none => exact absurd hq e
        | some q => exact o6.low b q hq
      have none6 : ∀ b, ¬ (w5.heap.size ≤ b ∧ b < w6.heap.size) → lab6 b = none := fun b e => by
        cases hq : lab6 b with
        | none => rfl
        | some q => exact absurd (o6.low b q hq) e
      refine Wg.oneH rfl rfl rfl rfl rfl (Wl.guardY rfl rfl (Wl.call (apart_spec ((o6.new n7).new n8) (o7.rd.keep stableNd n8.keep) r8 (fun b hb e => none6 b (by omega)) (fun b hb e => none6 b (by omega)) shT lT.1 lT.2) rfl ?_))
      rintro _ w9 ⟨rfl, c9⟩
      have n29 : New w2 w9 := Chg.trans n28 c9 fun b hb e => by have := l6 b e; omega
      refine Wl.nil ⟨rfl, n29, ?_⟩
      clear o6 o7 r8 T5 T6 T7 c9 l6 none6 n26 n27 n28 n6 n7 n8 s6 s7 s5
      (repeat' (first | refine Wg.nil ?_ | (refine Wg.qh rfl rfl rfl ?_; (try refine Wq.guardY rfl rfl ?_); (first | refine Wq.moveE (by conv => { lhs; whnf }) ?_ | refine Wq.assignE (by conv => { lhs; whnf }) ?_ | refine Wq.extract rfl rfl ?_ | refine Wq.pickTE rfl (by conv => { lhs; whnf }) ?_ | refine Wq.pickFE rfl (by conv => { lhs; whnf }) ?_ | refine Wq.notB rfl ?_ | refine Wq.lenS rfl ?_ | refine Wq.lenStr rfl ?_ | refine Wq.nilP rfl ?_ | refine Wq.fieldAddr rfl rfl ?_ | refine Wq.add rfl rfl (by omega) (by omega) ?_ | refine Wq.sub rfl rfl (by omega) (by omega) ?_ | refine Wq.mul rfl rfl (by omega) (by omega) ?_ | refine Wq.convI rfl ?_ | (refine Wq.lss rfl rfl (fun _ => ?_) (fun _ => ?_) <;> (first | (exfalso; omega) | (exfalso; contradiction) | skip)) | (refine Wq.leq rfl rfl (fun _ => ?_) (fun _ => ?_) <;> (first | (exfalso; omega) | (exfalso; contradiction) | skip)) | (refine Wq.gtr rfl rfl (fun _ => ?_) (fun _ => ?_) <;> (first | (exfalso; omega) | (exfalso; contradiction) | skip)) | (refine Wq.geq rfl rfl (fun _ => ?_) (fun _ => ?_) <;> (first | (exfalso; omega) | (exfalso; contradiction) | skip)) | (refine Wq.eql rfl rfl (fun _ => ?_) (fun _ => ?_) <;> (first | (exfalso; omega) | (exfalso; contradiction) | skip)) | (refine Wq.neq rfl rfl (fun _ => ?_) (fun _ => ?_) <;> (first | (exfalso; omega) | (exfalso; contradiction) | skip)) | (refine Wq.seql rfl rfl (fun _ => ?_) (fun _ => ?_) <;> (first | (exfalso; omega) | (exfalso; contradiction) | skip)) | (refine Wq.sneq rfl rfl (fun _ => ?_) (fun _ => ?_) <;> (first | (exfalso; omega) | (exfalso; contradiction) | skip))); all_goals (try refine Wq.nil ?_))))
      refine Wg.quiet (q := 29) (l' := [28, 30, 31, 32, 33, 34, 35, 36, 37]) rfl rfl rfl (Wq.guardY rfl rfl (Wq.moveE (by conv => { lhs; whnf }) (Wq.nil ?_)))
      refine Wg.quiet (q := 31) (l' := [28, 30, 32, 33, 34, 35, 36, 37]) rfl rfl rfl (Wq.guardY rfl rfl (Wq.moveE (by conv => { lhs; whnf }) (Wq.nil ?_)))
      refine Wg.quiet (q := 32) (l' := [28, 30, 33, 34, 35, 36, 37]) rfl rfl rfl (Wq.guardY rfl rfl (Wq.nilP rfl (Wq.nil ?_)))
      refine Wg.quiet (q := 33) (l' := [28, 30, 34, 35, 36, 37]) rfl rfl rfl (Wq.guardY rfl rfl (Wq.fieldAddr rfl rfl (Wq.nil ?_)))
      refine Wg.quiet (q := 34) (l' := [28, 30, 35, 36, 37]) rfl rfl rfl (Wq.guardY rfl rfl (Wq.load1 rfl (fun w' hw => (T2.new hw).m.bk.cell (o := 0) rfl) (Wq.nil ?_)))
      have T9 := T2.new n29
      refine Wg.oneH rfl rfl rfl rfl rfl (Wl.guardY rfl rfl (Wl.call (Base_spec T9.s wf) rfl ?_))
      rintro t10 w10 ⟨⟨lab10, pvs10, o10⟩, n10⟩
      have n210 := New.trans n29 n10
      refine Wl.nil ⟨rfl, n210, ?_⟩
      have T10 := T2.new n210
      refine Wg.oneH rfl rfl rfl rfl rfl (Wl.guardY rfl rfl (Wl.call (Base_spec T10.s wf) rfl ?_))
      rintro t11 w11 ⟨⟨lab11, pvs11, o11⟩, n11⟩
      have n211 := New.trans n210 n11
      refine Wl.nil ⟨rfl, n211, ?_⟩
      have T11 := T2.new n211
      have s9 := n29.size
      have s10 := n10.size
      have none10 : ∀ b, ¬ (w9.heap.size ≤ b ∧ b < w10.heap.size) → lab10 b = none := fun b e => by
        cases hq : lab10 b with
        | none => rfl
        | some q => exact absurd (o10.low b q hq) e
      have l10 : ∀ b, lab10 b ≠ none → w9.heap.size ≤ b := fun b e => by
        cases hq : lab10 b with
        | none => exact absurd hq e
        | some q => exact (o10.low b q hq).1
      refine Wg.oneH rfl rfl rfl rfl rfl (Wl.guardY rfl rfl (Wl.call (apart_spec (o10.new n11) o11.rd T11.m.base (fun b hb e => none10 b (by omega)) (fun b hb e => none10 b (by have := T9.m.lt b e; omega)) shB lB.1 lB.2) rfl ?_))
      rintro _ w12 ⟨rfl, c12⟩
      have n212 : New w2 w12 := Chg.trans n211 c12 fun b hb e => by have := l10 b e; omega
      refine Wl.nil ⟨rfl, n212, ?_⟩
      (repeat' (first | refine Wg.nil ?_ | (refine Wg.qh rfl rfl rfl ?_; (try refine Wq.guardY rfl rfl ?_); (first | refine Wq.moveE (by conv => { lhs; whnf }) ?_ | refine Wq.assignE (by conv => { lhs; whnf }) ?_ | refine Wq.extract rfl rfl ?_ | refine Wq.pickTE rfl (by conv => { lhs; whnf }) ?_ | refine Wq.pickFE rfl (by conv => { lhs; whnf }) ?_ | refine Wq.notB rfl ?_ | refine Wq.lenS rfl ?_ | refine Wq.lenStr rfl ?_ | refine Wq.nilP rfl ?_ | refine Wq.fieldAddr rfl rfl ?_ | refine Wq.add rfl rfl (by omega) (by omega) ?_ | refine Wq.sub rfl rfl (by omega) (by omega) ?_ | refine Wq.mul rfl rfl (by omega) (by omega) ?_ | refine Wq.convI rfl ?_ | (refine Wq.lss rfl rfl (fun _ => ?_) (fun _ => ?_) <;> (first | (exfalso; omega) | (exfalso; contradiction) | skip)) | (refine Wq.leq rfl rfl (fun _ => ?_) (fun _ => ?_) <;> (first | (exfalso; omega) | (exfalso; contradiction) | skip)) | (refine Wq.gtr rfl rfl (fun _ => ?_) (fun _ => ?_) <;> (first | (exfalso; omega) | (exfalso; contradiction) | skip)) | (refine Wq.geq rfl rfl (fun _ => ?_) (fun _ => ?_) <;> (first | (exfalso; omega) | (exfalso; contradiction) | skip)) | (refine Wq.eql rfl rfl (fun _ => ?_) (fun _ => ?_) <;> (first | (exfalso; omega) | (exfalso; contradiction) | skip)) | (refine Wq.neq rfl rfl (fun _ => ?_) (fun _ => ?_) <;> (first | (exfalso; omega) | (exfalso; contradiction) | skip)) | (refine Wq.seql rfl rfl (fun _ => ?_) (fun _ => ?_) <;> (first | (exfalso; omega) | (exfalso; contradiction) | skip)) | (refine Wq.sneq rfl rfl (fun _ => ?_) (fun _ => ?_) <;> (first | (exfalso; omega) | (exfalso; contradiction) | skip))); all_goals (try refine Wq.nil ?_))))
      exact ⟨rfl, ⟨rfl, rfl, rfl, rfl, rfl, trivial⟩, n212⟩
    · rintro F w3 ⟨hag, n3⟩
      rw [← upds_of_agrees hag]
      simp only [upds]
      (repeat' (first | refine Wc.skip ?_ | refine Wc.condF rfl ?_))
      exact ⟨rfl, ⟨rfl, rfl, rfl, rfl, trivial⟩, n3⟩
  · rintro F w3 ⟨hag, n23⟩
    rw [← upds_of_agrees hag]
    simp only [upds]
    have T3 := T2.new n23
    have oa3 := oa2.new (plain_one _) n23
    have od3 := od.new (plain_one _) n23
    have n03 := New.trans n02 n23
    have s3 := n23.size
    clear T2 oa2 od n1 n2 n02 n23 hag
    rw [hnl] at oa3 od3 spad ⊢
    (repeat' (first | refine Wl.assignE (by conv => { lhs; whnf }) ?_ | refine Wl.nil ?_ | refine Qseq.normal ?_ | refine Wc.seq ?_ | refine Wc.region ?_ | refine Wc.block ?_))
    refine Wc.loop (σ := Nat × List Int) (fun s => [(0, ptrV bl), (1, ptrV bm), (5, .slice aa S.rows.length ac), (6, .slice da S.rows.length dc), (7, vi s.1)])
      (fun s w' => s.1 ≤ S.rows.length ∧ s.2.length = S.rows.length ∧ OwnS (one vi) 3 1 (fun b => w.heap.size ≤ b) No w' (.slice aa S.rows.length ac) s.2 ∧ Chg (fun b => (Value.slice aa S.rows.length ac).ownBlock = some b) w3 w') (fun s => S.rows.length - s.1)
      (0, S.rows.map (·.n)) ⟨rfl, rfl, rfl, rfl, rfl, trivial⟩ ⟨Nat.zero_le _, hnl, oa3, Chg.refl _ _⟩ ?_
    rintro ⟨k, l⟩ G w4 ⟨hk, hl, o4, c4⟩
    dsimp only at hk hl o4 c4
    simp only [upds]
    (repeat' (first | refine Wl.moveE (by conv => { lhs; whnf }) ?_ | refine Wl.assignE (by conv => { lhs; whnf }) ?_ | refine Wl.nil ?_ | refine Wl.lenS rfl ?_ | refine Qseq.normal ?_ | refine Wc.seq ?_ | refine Wc.region ?_ | refine Wc.block ?_ | refine Wc.skip ?_ | refine Wc.exit ?_ | refine Qseq.exit ?_ | refine Qblk.hit ?_ | refine Qloop.exit ?_ | refine Wc.condT rfl ?_ | refine Wc.condF rfl ?_ | refine Wl.lss rfl rfl (fun _ => ?_) (fun _ => ?_)))
    · obtain ⟨g, gc, ge, _⟩ := o4.blk (by intro e; rw [e] at hl; simp at hl; omega)
      rw [hl] at ge
      simp only [Value.slice.injEq] at ge
      obtain ⟨rfl, _, rfl⟩ := ge
      refine Wl.idxP rfl rfl (by omega) (by omega) ?_
      refine Wl.storeOwn (f := vi) (g := g) (j := k) (cap := ac) (q := -5) o4 (by rw [hl]) (by omega) (by show Value.pointer (some ⟨g, 0 + (k : Int).toNat * 1, none⟩) = _; simp) rfl rfl rfl fun w5 o5 c5 => ?_
      (repeat' (first | refine Wl.moveE (by conv => { lhs; whnf }) ?_ | refine Wl.assignE (by conv => { lhs; whnf }) ?_ | refine Wl.nil ?_ | refine Qseq.normal ?_ | refine Wc.region ?_ | refine Qblk.normal ?_ | refine Wl.add rfl rfl (by omega) (by omega) ?_))
      exact Qloop.normal (k + 1, _) ⟨rfl, rfl, rfl, rfl, rfl, trivial⟩ ⟨by dsimp only; omega, by simpa using hl, o5, Chg.trans c4 c5 fun _ _ e => e⟩ (by dsimp only; omega)
    · refine Wc.loop (σ := Nat × Value × List Int) (fun s => [(0, ptrV bl), (1, ptrV bm), (5, s.2.1), (6, .slice da S.rows.length dc), (8, vi s.1)])
        (fun s w' => s.1 ≤ 20 ∧ s.2.2.length = S.rows.length + s.1 ∧ OwnS (one vi) 3 1 (fun b => (Value.slice aa S.rows.length ac).ownBlock = some b ∨ w3.heap.size ≤ b) No w' s.2.1 s.2.2 ∧ Chg (fun b => (Value.slice aa S.rows.length ac).ownBlock = some b) w3 w') (fun s => 20 - s.1)
        (0, .slice aa S.rows.length ac, l) ⟨rfl, rfl, rfl, rfl, rfl, trivial⟩ ⟨Nat.zero_le _, hl, o4.reblk fun b e _ => .inl e, c4⟩ ?_
      rintro ⟨m, lv, l2⟩ G w5 ⟨hm, hl2, o5, c5⟩
      dsimp only at hm hl2 o5 c5
      obtain ⟨la, lc, rfl, _, _⟩ := o5.form
      have s5 := c5.size
      simp only [upds]
      (repeat' (first | refine Wl.moveE (by conv => { lhs; whnf }) ?_ | refine Wl.nil ?_ | refine Qseq.normal ?_ | refine Wc.seq ?_ | refine Wc.region ?_ | refine Wc.block ?_ | refine Wc.skip ?_ | refine Wc.exit ?_ | refine Qseq.exit ?_ | refine Qblk.hit ?_ | refine Qloop.exit ?_ | refine Wc.condT rfl ?_ | refine Wc.condF rfl ?_ | refine Wl.lss rfl rfl (fun _ => ?_) (fun _ => ?_)))
      · refine Wl.append1 (R := one vi) (y := -6) (cs := [vi (-6)]) gdInt o5 rfl rfl rfl rfl rfl (by omega) (by omega) (by simp only [maxLen]; omega) (by omega) rfl rfl fun v6 w6 p6 o6 c6 lie6 => ?_
        (repeat' (first | refine Wl.moveE (by conv => { lhs; whnf }) ?_ | refine Wl.assignE (by conv => { lhs; whnf }) ?_ | refine Wl.nil ?_ | refine Qseq.normal ?_ | refine Wc.region ?_ | refine Qblk.normal ?_ | refine Wl.add rfl rfl (by omega) (by omega) ?_))
        exact Qloop.normal (m + 1, v6, _) ⟨rfl, rfl, rfl, rfl, rfl, trivial⟩ ⟨by dsimp only; omega, by dsimp only; rw [List.length_append, hl2]; simp; omega, o6.reblk fun b _ e => (by rcases e with (e | e) | e; exact .inl e; exact .inr e; exact .inr (by omega)), Chg.trans c5 c6 fun b hb e => by
          rcases (o5.lt e).1 with e | e
          · exact e
          · omega⟩ (by dsimp only; omega)
      · have n05 : New w w5 := Chg.trans n03 c5 fun b hb e => by have := (oa3.lt e).1; omega
        have T5 : Two lo lab Pm w5 bl bm S bv rv (.slice ca S.base.length cc) pv (.slice na (S.rows.map (·.n)).length nc) := by
          refine ⟨T3.s.chg c5 fun b hb e => ?_, T3.m.chg c5 fun b hb e => ?_, T3.dj⟩
          · cases hq : lab b with
            | none => rfl
            | some q => have := hlab b q hq; have := (oa3.lt e).1; omega
          · have h1 := (oa3.lt e).1
            exact ⟨fun e2 => by have := hPm b e2; omega, by omega⟩
        have od5 := od3.chg (plain_one _) c5 fun b e1 e2 => spad b e2 e1
        refine Wc.regionT rfl (by kernel_rfl) (New w5) (Chg.drew _ _) ?_
        intro w6 n6
        (repeat' (first | refine Wt.quiet rfl (Wq.moveE (by conv => { lhs; whnf }) (Wq.nil ?_)) | refine Wt.quiet rfl (Wq.nilP rfl (Wq.nil ?_)) | refine Wt.quiet rfl (Wq.fieldAddr rfl rfl (Wq.nil ?_))))
        refine Wt.quiet rfl (Wq.load1 rfl (fun w' hw => (T5.new hw).m.bk.cell (o := 2) rfl) (Wq.nil ?_))
        refine Wt.chain rfl (Wl.call (numbers_spec ((od5.new (plain_one _) n6).rd (mono_one _)) (T5.new n6).m.nums) (by rw [hnl]; rfl) ?_)
        rintro _ w7 ⟨rfl, n7'⟩
        have n7 := New.trans n6 n7'
        refine Wl.nil ⟨rfl, n7, ?_⟩
        (repeat' (first | refine Wt.guardY rfl rfl ?_ | refine Wt.quiet rfl (Wq.moveE (by conv => { lhs; whnf }) (Wq.nil ?_))))
        refine Wt.chain rfl (Wl.call (Tree_spec (T5.new n7).s wf) rfl ?_)
        rintro t8 w8 ⟨⟨lab8, pvs8, o8⟩, n8⟩
        have n58 := New.trans n7 n8
        refine Wl.nil ⟨rfl, n58, ?_⟩
        (repeat' (first | refine Wt.guardY rfl rfl ?_ | refine Wt.quiet rfl (Wq.moveE (by conv => { lhs; whnf }) (Wq.nil ?_))))
        refine Wt.chain rfl (Wl.call (TreeRf_spec (T5.new n58).m I) rfl ?_)
        rintro t9 w9 ⟨r9, n9⟩
        have n59 := New.trans n58 n9
        refine Wl.nil ⟨rfl, n59, ?_⟩
        (repeat' (refine Wt.guardY rfl rfl ?_))
        refine Wt.chain rfl (Wl.call (Same_spec (o8.new n9).rd r9 shT) rfl ?_)
        rintro _ w10 ⟨rfl, n10⟩
        have n510 := New.trans n59 n10
        refine Wl.nil ⟨rfl, n510, ?_⟩
        (repeat' (first | refine Wt.guardY rfl rfl ?_ | refine Wt.quiet rfl (Wq.moveE (by conv => { lhs; whnf }) (Wq.nil ?_)) | refine Wt.quiet rfl (Wq.pickTE rfl (by conv => { lhs; whnf }) (Wq.nil ?_))))
        refine Wt.chain rfl (Wl.call (Base_spec (T5.new n510).s wf) rfl ?_)
        rintro t11 w11 ⟨⟨lab11, pvs11, o11⟩, n11⟩
        have n511 := New.trans n510 n11
        refine Wl.nil ⟨rfl, n511, ?_⟩
        (repeat' (first | refine Wt.guardY rfl rfl ?_ | refine Wt.quiet rfl (Wq.moveE (by conv => { lhs; whnf }) (Wq.nil ?_)) | refine Wt.quiet rfl (Wq.nilP rfl (Wq.nil ?_)) | refine Wt.quiet rfl (Wq.fieldAddr rfl rfl (Wq.nil ?_))))
        refine Wt.quiet rfl (Wq.load1 rfl (fun w' hw => (T5.new hw).m.bk.cell (o := 0) rfl) (Wq.nil ?_))
        (repeat' (refine Wt.guardY rfl rfl ?_))
        refine Wt.chain rfl (Wl.call (Same_spec o11.rd (T5.new n511).m.base shB) rfl ?_)
        rintro _ w12 ⟨rfl, n12⟩
        have n512 := New.trans n511 n12
        refine Wl.nil ⟨rfl, n512, ?_⟩
        (repeat' (first | refine Wt.nil ?_ | refine Wt.quiet rfl (Wq.assignE (by conv => { lhs; whnf }) (Wq.nil ?_)) | refine Wt.quiet rfl (Wq.pickTE rfl (by conv => { lhs; whnf }) (Wq.nil ?_))))
        (repeat' (first | refine Qseq.normal ?_ | refine Wc.ret ?_))
        exact Qfn.ret1 rfl rfl ⟨_, rfl, rfl, New.trans n05 n512⟩
end Go.Proofs.YtjpebmgllfiloaaDoor

namespace Go.Proofs.YtjpebmgllfiloaaDoor
open Go Wk
open Go.RowKit (Below)
attribute [local irreducible] Go.Calls

section
variable {P : Program} {n : Nat} {ds : List Deferred} {Q : Po} {F : Fr} {w : World} {ops rest : List Oper} {d : Nat} {ty t t' : TypeId} {pos : String} {aft : Array Edge}
theorem Wl.bneq {x y : Operand} {a b : Bool} [ht : Und P t .bool] (hx : ev n F x = .bool a) (hy : ev n F y = .bool b) (c : Wl P n ds Q ops rest (upd F d (.bool !(a == b))) w) : Wl P n ds Q ops (⟨some d, .binOp .neq t x y t', ty, pos, aft, none⟩ :: rest) F w := by
  refine Wl.val ?_ c
  have h : (Op.equalIn 10000 t (.bool a) (.bool b)).run P w = .ok (a == b) w := run_equalIn_bool' (P := P) w 9999 t a b ht.h
  have hb : (binOp .neq t (.bool a) (.bool b)).run P w = .ok (.bool !(a == b)) w := by
    simp only [binOp]
    simp [Op.equal, Op.maxDepth, h]
  simp only [execOp, hx, hy, Sem.run_bind, run_eqGuard_bool, Result.andThen_ok, hb, Sem.run_pure]
end
structure Stp where
  kind : Int
  p : Pc
  back : Bool
  n : Int
def rStp : Rel Stp := fun Pb w x cs => ∃ nv dv, cs = [vi x.kind, vs x.p.target, nv, dv, .bool x.back, vi x.n] ∧ RdS rNd 3 Pb w nv x.p.nodes ∧ RdS (one vs) 1 Pb w dv x.p.drop
theorem stStp : Stable rStp := fun _ _ _ _ _ hk ⟨nv, dv, e, h1, h2⟩ => ⟨nv, dv, e, h1.keep stableNd hk, h2.keep (stable_one _) hk⟩
theorem moStp : Mono rStp := fun _ _ _ _ _ hP ⟨nv, dv, e, h1, h2⟩ => ⟨nv, dv, e, h1.mono monoNd hP, h2.mono (mono_one _) hP⟩
theorem StI.mono {S : Stk} {i j : Nat} (h : StI S i) (hij : i ≤ j) : StI S j := ⟨h.base, h.cons, h.len, h.tg, h.inc, h.bd, by have := h.laid; omega⟩
/-- The law's state between two rounds. -/
structure StW (w0 w : World) (lo : Nat) (lab : SLab) (Pm : Nat → Prop) (bl bm : Nat) (S : Stk) (bv rv cv pv nv : Value) : Prop where
  T : Two lo lab Pm w bl bm S bv rv cv pv nv
  lo : w0.heap.size ≤ lo ∧ lo ≤ w.heap.size
  pm : ∀ b, Pm b → w0.heap.size ≤ b
  bm : w0.heap.size ≤ bm
  n : New w0 w
theorem StW.chg {w0 w w' : World} {lo : Nat} {lab : SLab} {Pm M : Nat → Prop} {bl bm : Nat} {S : Stk} {bv rv cv pv nv : Value} (h : StW w0 w lo lab Pm bl bm S bv rv cv pv nv) (c : Chg M w w') (hM : ∀ b, b < w.heap.size → M b → lab b = none ∧ ¬ Pm b ∧ b ≠ bm ∧ w0.heap.size ≤ b) : StW w0 w' lo lab Pm bl bm S bv rv cv pv nv :=
  ⟨⟨h.T.s.chg c fun b hb e => (hM b hb e).1, h.T.m.chg c fun b hb e => ⟨(hM b hb e).2.1, (hM b hb e).2.2.1⟩, h.T.dj⟩, ⟨h.lo.1, Nat.le_trans h.lo.2 c.size⟩, h.pm, h.bm, Chg.trans h.n c fun b hb e => by have := (hM b (Nat.lt_of_lt_of_le hb h.n.size) e).2.2.2; omega⟩
theorem StW.new {w0 w w' : World} {lo : Nat} {lab : SLab} {Pm : Nat → Prop} {bl bm : Nat} {S : Stk} {bv rv cv pv nv : Value} (h : StW w0 w lo lab Pm bl bm S bv rv cv pv nv) (c : New w w') : StW w0 w' lo lab Pm bl bm S bv rv cv pv nv := h.chg c fun _ _ e => e.elim
set_option maxHeartbeats 8000000 in
set_option maxRecDepth 8000 in
theorem stacks_law {w : World} {tv lv : Value} {t : List Nd} {l : List Stp} (ht : RdS rNd 3 (fun b => b < w.heap.size) w tv t) (hl : RdS rStp 6 (fun b => b < w.heap.size) w lv l) (bt : Bd t)
    (bls : ∀ s ∈ l, Bd s.p.nodes ∧ s.p.drop.length ≤ 1500000 ∧ s.p.target.length ≤ 1500000) :
    Calls Tryd.prog 7 #[tv, lv] w (Ret fun r w' => r = .bool true ∧ New w w') := by
  obtain ⟨la, lc, rfl, hlc1, hlc2⟩ := hl.form
  simp only [maxLen] at hlc2
  have hbl := bt.len
  refine calls_of_Wc Tryd.func7 rfl Tryd.ntmps7 rfl ?_
  (repeat' (first | refine Wl.moveE (by conv => { lhs; whnf }) ?_ | refine Wl.assignE (by conv => { lhs; whnf }) ?_ | refine Wl.nil ?_ | refine Qseq.normal ?_ | refine Wc.seq ?_ | refine Wc.region ?_))
  refine Wl.call (lent_spec ht (by omega) bt.pr) rfl ?_
  rintro _ w1 ⟨lab, xa, xc, pvs, rfl, tx, n1⟩
  have s1 := n1.size
  have hx1 := tx.low
  (repeat' (first | refine Wl.moveE (by conv => { lhs; whnf }) ?_ | refine Wl.assignE (by conv => { lhs; whnf }) ?_ | refine Wl.nil ?_ | refine Qseq.normal ?_ | refine Wc.seq ?_ | refine Wc.region ?_))
  refine Wl.buildF (ps := [(0, .const (vi (-1)))]) (parts := [(0, vi (-1))]) rfl rfl (by simp [Value.cells]) ?_
  refine Wl.buildSlice1 (R := rNd) (y := ⟨-1, [], []⟩) (Pe := No) (cs := [vi (-1), vs [], .slice none 0 0]) goodNd rfl rfl rfl ⟨_, rfl, RdS.nil⟩ (by omega) (by omega) fun v2 w2 o2 n2 s2' hob2 => ?_
  obtain ⟨a2, c2, rfl, _, _⟩ := o2.form
  refine Wl.buildF (ps := [(0, .const (vs [47])), (1, .tmp 25)]) (parts := [(0, vs [47]), (1, .slice a2 1 c2)]) rfl rfl (by simp [Value.cells]) ?_
  have n02 := New.trans n1 n2
  refine Wl.call (LayR_spec (p := rootP) (anyN (ht.keep stableNd n02.keep)) (anyN (o2.rd monoNd)) (anyS (Pb := Any) (RdS.nil))) rfl ?_
  rintro _ w3 ⟨v3, pvs3, rfl, n3, _⟩
  rw [layRM_M, layM_root]
  have n03 := New.trans n02 n3
  have n13 := New.trans n2 n3
  have tx3 := tx.new n13
  (repeat' (first | refine Wl.moveE (by conv => { lhs; whnf }) ?_ | refine Wl.assignE (by conv => { lhs; whnf }) ?_ | refine Wl.nil ?_ | refine Wl.extract rfl rfl ?_ | refine Qseq.normal ?_ | refine Wc.seq ?_ | refine Wc.region ?_))
  refine Wl.call (New_spec tx3.own.rd) rfl ?_
  rintro _ w4 ⟨n4, hbad, hgood⟩
  have n14 := New.trans n13 n4
  have n04 := New.trans n03 n4
  have tx4 := tx.new n14
  have ht4 := ht.keep stableNd n04.keep
  cases hok : treeOk t with
  | false =>
    rw [hbad hok]
    simp only [Bool.false_eq_true, if_false]
    (repeat' (first | refine Wl.moveE (by conv => { lhs; whnf }) ?_ | refine Wl.assignE (by conv => { lhs; whnf }) ?_ | refine Wl.nil ?_ | refine Wl.extract rfl rfl ?_ | refine Qseq.normal ?_ | refine Wc.seq ?_ | refine Wc.region ?_ | (refine Wl.eql rfl rfl (fun _ => ?_) (fun _ => ?_) <;> (first | (exfalso; omega) | skip))))
    refine Wl.bneq rfl rfl ?_
    (repeat' (first | refine Wl.moveE (by conv => { lhs; whnf }) ?_ | refine Wl.guardY rfl rfl ?_))
    refine Wl.peqNil rfl rfl ?_
    (repeat' (first | refine Wl.moveE (by conv => { lhs; whnf }) ?_ | refine Wl.guardY rfl rfl ?_ | (refine Wl.neq rfl rfl (fun _ => ?_) (fun _ => ?_) <;> (first | (exfalso; omega) | skip))))
    refine Wl.bneq rfl rfl ?_
    (repeat' (first | refine Wl.moveE (by conv => { lhs; whnf }) ?_ | refine Wl.guardY rfl rfl ?_ | refine Wl.pickFE rfl (by conv => { lhs; whnf }) ?_))
    refine Wl.call (kept_spec tx4 ht4 bt.short) rfl ?_
    rintro _ w5 ⟨rfl, n5⟩
    (repeat' (first | refine Wl.moveE (by conv => { lhs; whnf }) ?_ | refine Wl.nil ?_ | refine Wl.guardY rfl rfl ?_ | refine Wl.pickTE rfl (by conv => { lhs; whnf }) ?_ | refine Wl.pickFE rfl (by conv => { lhs; whnf }) ?_ | refine Wl.notB rfl ?_ | refine Qseq.normal ?_ | refine Wc.seq ?_ | refine Wc.region ?_ | refine Wc.skip ?_ | refine Wc.condF rfl ?_ | (refine Wl.neq rfl rfl (fun _ => ?_) (fun _ => ?_) <;> (first | (exfalso; omega) | skip))))
    refine Wl.peqNil rfl rfl ?_
    (repeat' (first | refine Wl.assignE (by conv => { lhs; whnf }) ?_ | refine Wl.nil ?_ | refine Qseq.normal ?_ | refine Wc.seq ?_ | refine Wc.region ?_ | refine Wc.ret ?_ | refine Qseq.ret ?_ | refine Wc.condT rfl ?_))
    exact Qfn.ret1 rfl rfl ⟨_, rfl, rfl, New.trans n04 n5⟩
  | true =>
    obtain ⟨bl, lab2, bv2, rfl, st4⟩ := hgood hok
    clear hbad hgood
    simp only [if_true]
    (repeat' (first | refine Wl.moveE (by conv => { lhs; whnf }) ?_ | refine Wl.assignE (by conv => { lhs; whnf }) ?_ | refine Wl.nil ?_ | refine Wl.extract rfl rfl ?_ | refine Qseq.normal ?_ | refine Wc.seq ?_ | refine Wc.region ?_ | (refine Wl.eql rfl rfl (fun _ => ?_) (fun _ => ?_) <;> (first | (exfalso; omega) | skip))))
    refine Wl.bneq rfl rfl ?_
    (repeat' (first | refine Wl.moveE (by conv => { lhs; whnf }) ?_ | refine Wl.guardY rfl rfl ?_))
    refine Wl.peqNil rfl rfl ?_
    (repeat' (first | refine Wl.moveE (by conv => { lhs; whnf }) ?_ | refine Wl.guardY rfl rfl ?_ | (refine Wl.neq rfl rfl (fun _ => ?_) (fun _ => ?_) <;> (first | (exfalso; omega) | skip))))
    refine Wl.bneq rfl rfl ?_
    (repeat' (first | refine Wl.moveE (by conv => { lhs; whnf }) ?_ | refine Wl.guardY rfl rfl ?_ | refine Wl.pickFE rfl (by conv => { lhs; whnf }) ?_))
    refine Wl.call (kept_spec tx4 ht4 bt.short) rfl ?_
    rintro _ w5 ⟨rfl, n5⟩
    (repeat' (first | refine Wl.moveE (by conv => { lhs; whnf }) ?_ | refine Wl.nil ?_ | refine Wl.guardY rfl rfl ?_ | refine Wl.guardN rfl rfl ?_ | refine Wl.pickFE rfl (by conv => { lhs; whnf }) ?_ | refine Wl.notB rfl ?_ | refine Qseq.normal ?_ | refine Wc.seq ?_ | refine Wc.region ?_ | refine Wc.skip ?_ | refine Wc.condF rfl ?_ | (refine Wl.neq rfl rfl (fun _ => ?_) (fun _ => ?_) <;> (first | (exfalso; omega) | skip))))
    refine Wl.peqNil rfl rfl ?_
    (repeat' (first | refine Wl.moveE (by conv => { lhs; whnf }) ?_ | refine Wl.nil ?_ | refine Qseq.normal ?_ | refine Wc.seq ?_ | refine Wc.region ?_ | refine Wc.skip ?_ | refine Wc.condF rfl ?_))
    refine Wl.call (over_spec (tx4.new n5).own (by omega) (fun x hx => by have := bt.pr x hx; omega)) rfl ?_
    rintro _ w6 ⟨⟨z6, rfl⟩, c6⟩
    have n06 : New w w6 := Chg.trans (New.trans n04 n5) c6 fun b hb e => by
      cases hq : lab b with
      | none => exact absurd hq e
      | some q => have := (hx1 b q hq).1; omega
    have s3 := n13.size
    have s56 := c6.size
    have st6 := (st4.new n5).chg c6 fun b hb e => by
      cases hq : lab2 b with
      | none => rfl
      | some q =>
        have h1 := (st4.low b q hq).1
        cases hq2 : lab b with
        | none => exact absurd hq2 e
        | some q2 => have := (hx1 b q2 hq2).2; omega
    have ht6 := ht.keep stableNd n06.keep
    clear tx tx3 tx4 st4 c6 n1 n2 n3 n02 n03 n13 n14 o2 ht4 hob2 s2'
    (repeat' (first | refine Wl.moveE (by conv => { lhs; whnf }) ?_ | refine Wl.nil ?_ | refine Qseq.normal ?_ | refine Wc.seq ?_ | refine Wc.region ?_))
    refine Wl.call (Twin_spec ht6 (tree_lens hok).1 (tree_lens hok).2) rfl ?_
    rintro tw w7 ⟨lab7, pvs7, o7, n7⟩
    have r7 := o7.rd
    obtain ⟨ta, tc, rfl, _, _⟩ := r7.form
    refine Wl.buildF (ps := [(0, .tmp 66)]) (parts := [(0, .slice ta t.length tc)]) rfl rfl (by simp [Value.cells]) ?_
    refine Wl.box rfl fun w8 b8 n8 s8 => ?_
    replace b8 : Bk w8 w7.heap.size tRf [.slice ta t.length tc, .slice none 0 0, .slice none 0 0, vi 0] := b8
    have s6 := n06.size
    have s7 := n7.size
    have n68 := New.trans n7 n8
    have W8 : StW w w8 w3.heap.size lab2 (fun b => w6.heap.size ≤ b ∧ b < w7.heap.size) bl w7.heap.size ⟨t, [], 0⟩ bv2 (.slice none 0 0) (.slice ta t.length tc) (.slice none 0 0) (.slice none 0 0) := by
      refine ⟨⟨st6.new n68, ⟨b8, (r7.mono monoNd fun b hb e => ⟨e, hb⟩).keep stableNd n8.keep, RdS.nil, RdS.nil, fun e => by omega, fun b e => by omega⟩, fun b e => ?_⟩, ⟨by omega, ?_⟩, fun b e => by omega, by omega, New.trans n06 n68⟩
      · cases hq : lab2 b with
        | none => rfl
        | some q => have := (st6.low b q hq).2; rcases e with e | e <;> omega
      · have := n4.size; have := n5.size; omega
    (repeat' (first | refine Wl.assignE (by conv => { lhs; whnf }) ?_ | refine Wl.nil ?_ | refine Qseq.normal ?_ | refine Wc.seq ?_ | refine Wc.region ?_ | refine Wc.block ?_))
    refine Wc.loop (σ := Nat × Stk × SLab × (Nat → Prop) × (Value × Value × Value × Value × Value)) (fun s => [(1, .slice la l.length lc), (8, ptrV bl), (10, ptrV w7.heap.size), (11, vi s.1)])
      (fun s w' => s.1 ≤ l.length ∧ s.1 ≤ 60 ∧ StI s.2.1 s.1 ∧ StW w w' w3.heap.size s.2.2.1 s.2.2.2.1 bl w7.heap.size s.2.1 s.2.2.2.2.1 s.2.2.2.2.2.1 s.2.2.2.2.2.2.1 s.2.2.2.2.2.2.2.1 s.2.2.2.2.2.2.2.2) (fun s => l.length - s.1)
      (0, ⟨t, [], 0⟩, lab2, (fun b => w6.heap.size ≤ b ∧ b < w7.heap.size), bv2, .slice none 0 0, .slice ta t.length tc, .slice none 0 0, .slice none 0 0) ⟨rfl, rfl, rfl, rfl, trivial⟩
      ⟨Nat.zero_le _, by omega, ⟨hok, trivial, by simp, by simp, by simp, by simp, by simp⟩, W8⟩ ?_
    rintro ⟨i, S, lb, Pm, bv, rv, cv, pv, nv⟩ G w9 ⟨hi, hi60, I, W⟩
    dsimp only at hi hi60 I W
    clear W8 st6 r7 o7 b8 hok
    simp only [upds]
    refine Wc.seq ?_
    refine Wc.seq ?_
    (repeat' (first | refine Wl.moveE (by conv => { lhs; whnf }) ?_ | refine Wl.nil ?_ | refine Wl.guardY rfl rfl ?_ | refine Wl.guardN rfl rfl ?_ | refine Wl.pickTE rfl (by conv => { lhs; whnf }) ?_ | refine Wl.pickFE rfl (by conv => { lhs; whnf }) ?_ | refine Wl.lenS rfl ?_ | refine Qseq.normal ?_ | refine Wc.region ?_ | refine Wc.skip ?_ | refine Wc.exit ?_ | refine Qseq.exit ?_ | refine Qblk.hit ?_ | refine Qloop.exit ?_ | refine Wc.condT rfl ?_ | refine Wc.condF rfl ?_ | refine Wl.lss rfl rfl (fun _ => ?_) (fun _ => ?_)))
    · refine Wc.seq ?_
      refine Wc.block ?_
      refine Wc.cut (fun F w' => ∃ (S' : Stk) (lb' : SLab) (Pm' : Nat → Prop) (bv' rv' cv' pv' nv' : Value), agrees F [(1, .slice la l.length lc), (8, ptrV bl), (10, ptrV w7.heap.size), (11, vi i)] ∧ StI S' (i + 1) ∧ StW w w' w3.heap.size lb' Pm' bl w7.heap.size S' bv' rv' cv' pv' nv') ?_ ?_
      · refine Wc.seq ?_
        obtain ⟨st, hst⟩ := get_lt l (k := i) (by omega)
        have hb := bls st (List.mem_of_getElem? hst)
        have hls := hl.keep stStp W.n.keep
        have s9 := W.n.size
        have hlb : ∀ b, w9.heap.size ≤ b → lb b = none := fun b e => by
          cases hq : lb b with
          | none => rfl
          | some q => have := (W.T.s.low b q hq).2; omega
        have hPm := W.T.m.lt
        have hbmlt := W.T.m.bk.lt
        have hwbm := W.bm
        have hdj := W.T.dj
        have wf := I.wf (by omega)
        have hlen := I.len
        (repeat' (first | refine Wl.moveE (by conv => { lhs; whnf }) ?_ | refine Wc.region ?_))
        refine Wl.idxAddr hls rfl rfl (by omega) hst fun b o cs hcl hR hat => ?_
        obtain ⟨_, _, rfl, _, _⟩ := hR
        (repeat' (refine Wl.fieldAddr rfl rfl ?_))
        refine Wl.load1 rfl (hat.get 0 rfl) ?_
        clear hat
        (repeat' (first | refine Wl.moveE (by conv => { lhs; whnf }) ?_ | refine Wl.assignE (by conv => { lhs; whnf }) ?_ | refine Wl.nil ?_ | refine Qseq.normal ?_ | refine Wc.seq ?_ | refine Wc.region ?_ | refine Wc.block ?_ | refine Wc.skip ?_ | refine Qblk.normal ?_ | refine Wc.condT rfl ?_ | refine Wc.condF rfl ?_ | refine Wl.eql rfl rfl (fun _ => ?_) (fun _ => ?_)))
        · refine Wl.idxAddr hls rfl rfl (by omega) hst fun b o cs hcl hR hat => ?_
          obtain ⟨pnv, pdv, rfl, hn, hd⟩ := hR
          obtain ⟨_, _, rfl, _, _⟩ := hn.form
          obtain ⟨_, _, rfl, _, _⟩ := hd.form
          (repeat' (refine Wl.fieldAddr rfl rfl ?_))
          refine Wl.loadAt (At.part hat 1 3) rfl rfl ?_
          refine Wl.call (lentPiece_spec hn hd hb.1.len hb.1.pr hb.2.1) rfl ?_
          rintro r w10 ⟨⟨laby, ya, yc, qvs, da, dc, py⟩, n10⟩
          obtain rfl := py.eq
          clear hat
          have s10 := n10.size
          skip
          refine Wl.alloc fun w11 z11 n11 s11 => ?_
          refine Wl.storeB (new := [vs st.p.target, .slice ya st.p.nodes.length yc, .slice da st.p.drop.length dc]) z11 rfl rfl rfl rfl (show (3 : Nat) ≤ 3 from Nat.le_refl 3) (by intro c hc; simp at hc; rcases hc with rfl | rfl | rfl <;> rfl) fun w12 z12 c12 s12 => ?_
          replace z12 : Bk w12 w10.heap.size 25 [vs st.p.target, .slice ya st.p.nodes.length yc, .slice da st.p.drop.length dc] := z12
          have n912 : New w9 w12 := Chg.trans (New.trans n10 n11) c12 fun b hb e => by omega
          have W12 := W.new n912
          have hy2 : ∀ b c, laby b = some c → w9.heap.size ≤ b ∧ b < w10.heap.size := py.tl.low
          have hyd : ∀ b, (Value.slice da (st.p.drop.length + 1) dc).ownBlock = some b → w9.heap.size ≤ b ∧ b < w10.heap.size ∧ laby b = none := fun b e => ⟨(py.dl.lt e).1.1, (py.dl.lt e).2, (py.dl.lt e).1.2⟩
          have pyc : ∀ {w w' : World} {M : Nat → Prop} {r : Value}, PcL w9.heap.size w r st.p laby ya yc qvs da dc → Chg M w w' → (∀ b, M b → ¬ (w9.heap.size ≤ b ∧ b < w10.heap.size)) → PcL w9.heap.size w' r st.p laby ya yc qvs da dc := fun h c hM => h.chg c (fun b hb e => by
            cases hq : laby b with
            | none => rfl
            | some q => exact absurd (hy2 b q hq) (hM b e)) fun b e1 e2 => hM b e2 ⟨(hyd b e1).1, (hyd b e1).2.1⟩
          have py12 := pyc (py.new n11) c12 fun b e => by omega
          have hls12 := hl.keep stStp W12.n.keep
          clear py z11 c12 n11 n10 hn hd
          (repeat' (first | refine Wl.moveE (by conv => { lhs; whnf }) ?_ | refine Wl.nil ?_ | refine Qseq.normal ?_ | refine Wc.seq ?_ | refine Wc.region ?_))
          refine Wl.idxAddr hls12 rfl rfl (by omega) hst fun b o cs hcl hR hat => ?_
          obtain ⟨pnv, pdv, rfl, hn, hd⟩ := hR
          obtain ⟨_, _, rfl, _, _⟩ := hn.form
          obtain ⟨_, _, rfl, _, _⟩ := hd.form
          (repeat' (refine Wl.fieldAddr rfl rfl ?_))
          refine Wl.loadAt (At.part hat 1 3) rfl rfl ?_
          clear hat
          refine Wl.call (LayRf_spec W12.T.m I (by omega) hn hd (fun b e => by omega)) rfl ?_
          rintro _ w13 ⟨rfl, ⟨Pm13, cv13, pv13, nv13, m13, hPm13⟩, c13⟩
          have st13 := W12.T.s.chg c13 fun b hb e => hdj b (.inr e)
          have py13 := pyc py12 c13 fun b e => by omega
          have z13 := z12.chg c13 (by omega)
          have s13 := c13.size
          have rn13 := py13.rdn
          have rd13 := (own_short py13.dl rfl).rd (mono_one _)
          (repeat' (first | refine Wl.moveE (by conv => { lhs; whnf }) ?_ | refine Wl.assignE (by conv => { lhs; whnf }) ?_ | refine Wl.nil ?_ | refine Wl.extract rfl rfl ?_ | refine Qseq.normal ?_ | refine Wc.seq ?_ | refine Wc.region ?_))
          refine Wl.loadB z13 rfl rfl ?_
          refine Wl.call (LayS_spec st13 (by have := W.lo; omega) wf (Pp := fun b => w9.heap.size ≤ b) rn13 (rd13.mono (mono_one _) fun b hb e => by rcases e with e | e; exact e.1; exact e.elim) (by have := hb.2.2; omega) hlb) rfl ?_
          rintro _ w14 ⟨rfl, ⟨lb14, bv14, rv14, st14, hl14⟩, c14⟩
          have s14 := c14.size
          have hlbt : ∀ b, lb b = some true → b < w9.heap.size := fun b e => (W.T.s.low b true e).2
          have m14 := m13.chg c14 fun b hb' e => ⟨fun e2 => by
            rcases hPm13 b e2 with e3 | e3
            · have := hdj b (.inl e3); rw [this] at e; cases e
            · have := hlbt b e; omega, fun e2 => by have := hdj b (.inr e2); rw [this] at e; cases e⟩
          have py14 := pyc py13 c14 fun b e => by have := hlbt b e; omega
          have z14 := z13.chg c14 (fun e => by have := hlbt _ e; omega)
          have hl14' : ∀ b, w9.heap.size ≤ b → b < w13.heap.size → lb14 b = none := fun b e1 e2 => (hl14 b e2).trans (hlb b e1)
          have W14 : StW w w14 w3.heap.size lb14 Pm13 bl w7.heap.size (stkLay S st.p).1 bv14 rv14 cv13 pv13 nv13 := by
            refine ⟨⟨st14, m14, fun b e => ?_⟩, ⟨W.lo.1, by have := W.lo.2; omega⟩, fun b e => ?_, W.bm, ?_⟩
            · rcases e with e | rfl
              · have h1 := m13.lt b e
                rcases hPm13 b e with e3 | e3
                · exact (hl14 b h1).trans (hdj b (.inl e3))
                · exact hl14' b (by omega) h1
              · exact (hl14 _ (by omega)).trans (hdj _ (.inr rfl))
            · rcases hPm13 b e with e3 | e3
              · exact W.pm b e3
              · omega
            · exact Chg.trans (Chg.trans W12.n c13 fun b hb' e => by omega) c14 fun b hb' e => by have := (W.T.s.low b true e).1; have := W.lo.1; omega
          have hrange : ∀ b, w9.heap.size ≤ b ∧ b < w10.heap.size → lb14 b = none ∧ ¬ Pm13 b ∧ b ≠ w7.heap.size ∧ w.heap.size ≤ b := fun b e => ⟨hl14' b e.1 (by omega), fun e2 => by
            rcases hPm13 b e2 with e3 | e3
            · have := hPm b e3; omega
            · omega, by omega, by omega⟩
          have I14 := I.lay (p := st.p) (by have := hb.2.2; omega)
          have hls14 := hl.keep stStp W14.n.keep
          clear st13 st14 m13 m14 py12 py13 z12 z13 c13 c14 rn13 rd13 hn hd W12 hls12
          (repeat' (first | refine Wl.moveE (by conv => { lhs; whnf }) ?_ | refine Wl.assignE (by conv => { lhs; whnf }) ?_ | refine Wl.nil ?_ | refine Wl.extract rfl rfl ?_ | refine Qseq.normal ?_))
          refine Wc.seq ?_
          refine Wc.seq ?_
          refine Wc.regionT rfl (by kernel_rfl) (New w14) (Chg.drew _ _) ?_
          intro w15 n15
          (repeat' (first | refine Wt.guardY rfl rfl ?_ | refine Wt.quiet rfl (Wq.moveE (by conv => { lhs; whnf }) (Wq.nil ?_)) | refine Wt.quiet rfl (Wq.pickFE rfl (by conv => { lhs; whnf }) (Wq.nil ?_)) | (refine Wt.quiet rfl (Wq.neq rfl rfl (fun _ => Wq.nil ?_) (fun _ => Wq.nil ?_)) <;> (first | (exfalso; omega) | skip))))
          refine Wt.quiet rfl (Wq.loadAt (fun w' hw => (z14.chg hw id).at) rfl rfl (Wq.nil ?_))
          (repeat' (first | refine Wt.guardY rfl rfl ?_ | refine Wt.quiet rfl (Wq.moveE (by conv => { lhs; whnf }) (Wq.nil ?_))))
          refine Wt.quiet rfl (Wq.idxAddr hls14 (fun w' hw => New.keep hw) rfl rfl (by omega) hst fun b o cs hcl hR hat => Wq.nil ?_)
          obtain ⟨pnv, pdv, rfl, hn, hd⟩ := hR
          obtain ⟨_, _, rfl, _, _⟩ := hn.form
          obtain ⟨_, _, rfl, _, _⟩ := hd.form
          (repeat' (first | refine Wt.guardY rfl rfl ?_ | refine Wt.quiet rfl (Wq.fieldAddr rfl rfl (Wq.nil ?_))))
          refine Wt.quiet rfl (Wq.loadAt (fun w' hw => At.part (hat w' hw) 1 3) rfl rfl (Wq.nil ?_))
          clear hat
          refine Wt.guardY rfl rfl (Wt.chain rfl (Wl.call (keptPiece_spec (py14.new n15) (anyN (hn.keep stableNd n15.keep)) (anyS (hd.keep (stable_one _) n15.keep)) hb.1.short) rfl ?_))
          rintro _ w16 ⟨rfl, n16⟩
          have n1416 := New.trans n15 n16
          refine Wl.nil ⟨rfl, n1416, ?_⟩
          (repeat' (first | refine Wt.nil ?_ | refine Wt.guardY rfl rfl ?_ | refine Wt.quiet rfl (Wq.pickFE rfl (by conv => { lhs; whnf }) (Wq.nil ?_)) | refine Wt.quiet rfl (Wq.notB rfl (Wq.nil ?_))))
          have py16 := py14.new n1416
          have z16 := z14.chg n1416 id
          have W16 := W14.new n1416
          have s16 := n1416.size
          clear py14 z14 W14 n15 n16 n1416 hn hd hls14
          (repeat' (first | refine Qseq.normal ?_ | refine Wc.seq ?_ | refine Wc.region ?_ | refine Wc.skip ?_ | refine Wc.condF rfl ?_ | refine Wl.fieldAddr rfl rfl ?_))
          refine Wl.load1 rfl (z16.cell (o := 1) rfl) ?_
          refine Wl.call (over_spec py16.tl.own (by have := hb.1.len; omega) (fun x hx => by have := hb.1.pr x hx; omega)) rfl ?_
          rintro _ w17 ⟨⟨z17v, rfl⟩, c17⟩
          have hlny : ∀ b, laby b ≠ none → w9.heap.size ≤ b ∧ b < w10.heap.size := fun b e => by
            cases hq : laby b with
            | none => exact absurd hq e
            | some q => exact hy2 b q hq
          have W17 := W16.chg c17 fun b _ e => hrange b (hlny b e)
          have z17 := z16.chg c17 (fun e => by have := (hlny _ e).2; omega)
          have od17 := (own_short py16.dl rfl).chg (plain_one _) c17 (fun b e1 e2 => e2 (hyd b (by cases da <;> exact e1)).2.2)
          have hdl := hb.2.1
          clear py16 z16 W16 c17 hlny
          (repeat' (first | refine Wl.assignE (by conv => { lhs; whnf }) ?_ | refine Wl.nil ?_ | refine Qseq.normal ?_ | refine Wc.seq ?_ | refine Wc.region ?_ | refine Wc.block ?_))
          refine Wc.loop (σ := Nat × List (List UInt8)) (fun s => [(1, .slice la l.length lc), (8, ptrV bl), (10, ptrV w7.heap.size), (11, vi i), (12, ptrV w10.heap.size), (17, vi s.1)])
            (fun s w' => s.1 ≤ st.p.drop.length ∧ s.2.length = st.p.drop.length ∧ OwnS (one vs) 9 1 (fun b => w9.heap.size ≤ b ∧ laby b = none) No w' (.slice da st.p.drop.length dc) s.2 ∧ Bk w' w10.heap.size 25 [vs st.p.target, .slice ya st.p.nodes.length yc, .slice da st.p.drop.length dc] ∧ StW w w' w3.heap.size lb14 Pm13 bl w7.heap.size (stkLay S st.p).1 bv14 rv14 cv13 pv13 nv13) (fun s => st.p.drop.length - s.1)
            (0, st.p.drop) ⟨rfl, rfl, rfl, rfl, rfl, rfl, trivial⟩ ⟨Nat.zero_le _, rfl, od17, z17, W17⟩ ?_
          rintro ⟨k, dl⟩ G w18 ⟨hk, hdll, o18, z18, W18⟩
          dsimp only at hk hdll o18 z18 W18
          clear od17 z17 W17
          simp only [upds]
          (repeat' (first | refine Wl.moveE (by conv => { lhs; whnf }) ?_ | refine Wc.seq ?_ | refine Wc.region ?_ | refine Wl.fieldAddr rfl rfl ?_))
          refine Wl.load1 rfl (z18.cell (o := 2) rfl) ?_
          (repeat' (first | refine Wl.nil ?_ | refine Wl.lenS rfl ?_ | refine Qseq.normal ?_ | refine Wc.seq ?_ | refine Wc.region ?_ | refine Wc.block ?_ | refine Wc.skip ?_ | refine Wc.exit ?_ | refine Qseq.exit ?_ | refine Qblk.normal ?_ | refine Qblk.hit ?_ | refine Qloop.exit ?_ | refine Wc.condT rfl ?_ | refine Wc.condF rfl ?_ | refine Wl.fieldAddr rfl rfl ?_ | refine Wl.lss rfl rfl (fun _ => ?_) (fun _ => ?_)))
          · obtain ⟨g, gc, ge, _⟩ := o18.blk (by intro e; rw [e] at hdll; simp at hdll; omega)
            rw [hdll] at ge
            simp only [Value.slice.injEq] at ge
            obtain ⟨rfl, _, rfl⟩ := ge
            refine Wl.load1 rfl (z18.cell (o := 2) rfl) ?_
            (repeat' (refine Wl.moveE (by conv => { lhs; whnf }) ?_))
            refine Wl.idxP rfl rfl (by omega) (by omega) ?_
            refine Wl.storeOwn (f := vs) (g := g) (j := k) (cap := dc) (q := ovS) o18 (by rw [hdll]) (by omega) (by show Value.pointer (some ⟨g, 0 + (k : Int).toNat * 1, none⟩) = _; simp) rfl rfl rfl fun w19 o19 c19 => ?_
            (repeat' (first | refine Wl.moveE (by conv => { lhs; whnf }) ?_ | refine Wl.assignE (by conv => { lhs; whnf }) ?_ | refine Wl.nil ?_ | refine Qseq.normal ?_ | refine Wc.region ?_ | refine Qblk.normal ?_ | refine Wl.add rfl rfl (by omega) (by omega) ?_))
            have hg := hyd g rfl
            have c19' : Chg (fun b => b = g) w18 w19 := c19.mono fun b _ e => by cases e; rfl
            exact Qloop.normal (k + 1, _) ⟨rfl, rfl, rfl, rfl, rfl, rfl, trivial⟩ ⟨by dsimp only; omega, by simpa using hdll, o19, z18.chg c19' (by omega), W18.chg c19' fun b _ e => by subst e; exact hrange b ⟨hg.1, hg.2.1⟩⟩ (by dsimp only; omega)
          · exact ⟨rfl, _, lb14, Pm13, _, _, _, _, _, ⟨rfl, rfl, rfl, rfl, trivial⟩, I14, W18⟩
        · refine Wl.idxAddr hls rfl rfl (by omega) hst fun b o cs hcl hR hat => ?_
          obtain ⟨_, _, rfl, _, _⟩ := hR
          (repeat' (refine Wl.fieldAddr rfl rfl ?_))
          refine Wl.load1 rfl (hat.get 5 rfl) ?_
          clear hat
          have hnl : (S.rows.map (·.n)).length = S.rows.length := List.length_map _
          obtain ⟨na, nc, rfl, _, _⟩ := W.T.m.nums.form
          rw [hnl] at W
          have nums := W.T.m.nums
          have bmk := W.T.m.bk
          (repeat' (first | refine Wl.assignE (by conv => { lhs; whnf }) ?_ | refine Wl.nil ?_ | refine Qseq.normal ?_))
          refine Wc.cut (fun F w' => ∃ x : Int, agrees F [(1, .slice la l.length lc), (8, ptrV bl), (10, ptrV w7.heap.size), (11, vi i), (18, vi x)] ∧ New w9 w') ?_ ?_
          · refine Wc.seq ?_
            (repeat' (first | refine Wl.moveE (by conv => { lhs; whnf }) ?_ | refine Wc.region ?_))
            refine Wl.idxAddr hls rfl rfl (by omega) hst fun b o cs hcl hR hat => ?_
            obtain ⟨_, _, rfl, _, _⟩ := hR
            (repeat' (refine Wl.fieldAddr rfl rfl ?_))
            refine Wl.load1 rfl (hat.get 4 rfl) ?_
            clear hat
            cases hbk : st.back with
            | false =>
              (repeat' (first | refine Wl.moveE (by conv => { lhs; whnf }) ?_ | refine Wl.nil ?_ | refine Wl.guardN rfl rfl ?_ | refine Wl.pickFE rfl (by conv => { lhs; whnf }) ?_ | refine Qseq.normal ?_ | refine Wc.skip ?_ | refine Wc.condF rfl ?_))
              exact ⟨rfl, st.n, ⟨rfl, rfl, rfl, rfl, rfl, trivial⟩, Chg.refl _ _⟩
            | true =>
              (repeat' (first | refine Wl.moveE (by conv => { lhs; whnf }) ?_ | refine Wl.guardY rfl rfl ?_ | refine Wl.nilP rfl ?_ | refine Wl.fieldAddr rfl rfl ?_))
              refine Wl.load1 rfl (bmk.cell (o := 2) rfl) ?_
              (repeat' (first | refine Wl.nil ?_ | refine Wl.guardY rfl rfl ?_ | refine Wl.pickTE rfl (by conv => { lhs; whnf }) ?_ | refine Wl.lenS rfl ?_ | refine Qseq.normal ?_ | refine Wc.skip ?_ | refine Wc.condT rfl ?_ | refine Wc.condF rfl ?_ | refine Wl.gtr rfl rfl (fun _ => ?_) (fun _ => ?_)))
              · obtain ⟨q, hq⟩ : ∃ q, st.n.tmod (S.rows.length : Int) = q := ⟨_, rfl⟩
                have hq1 : q < S.rows.length := by rw [← hq]; exact Int.tmod_lt_of_pos _ (by omega)
                have hq2 : -(S.rows.length : Int) < q := by rw [← hq]; exact Int.lt_tmod_of_pos _ (by omega)
                obtain ⟨q', hq'⟩ : ∃ q', (q + (S.rows.length : Int)).tmod (S.rows.length : Int) = q' := ⟨_, rfl⟩
                have hq3 : q' < S.rows.length := by rw [← hq']; exact Int.tmod_lt_of_pos _ (by omega)
                have hq4 : 0 ≤ q' := by rw [← hq']; exact Int.tmod_nonneg _ (by omega)
                obtain ⟨x, hx⟩ := get_lt (S.rows.map (·.n)) (k := q'.toNat) (by rw [hnl]; omega)
                refine Wc.regionN rfl (by kernel_rfl) ?_
                (repeat' (first | refine Wq.moveE (by conv => { lhs; whnf }) ?_ | refine Wq.nilP rfl ?_ | refine Wq.fieldAddr rfl rfl ?_))
                refine Wq.load1 rfl (fun w' hw => (bmk.chg hw id).cell (o := 2) rfl) ?_
                (repeat' (first | refine Wq.moveE (by conv => { lhs; whnf }) ?_ | refine Wq.nilP rfl ?_ | refine Wq.fieldAddr rfl rfl ?_))
                refine Wq.load1 rfl (fun w' hw => (bmk.chg hw id).cell (o := 2) rfl) ?_
                (repeat' (refine Wq.lenS rfl ?_))
                refine Wq.remW rfl rfl (by omega) ?_
                rw [hq]
                (repeat' (first | refine Wq.moveE (by conv => { lhs; whnf }) ?_ | refine Wq.nilP rfl ?_ | refine Wq.fieldAddr rfl rfl ?_))
                refine Wq.load1 rfl (fun w' hw => (bmk.chg hw id).cell (o := 2) rfl) ?_
                (repeat' (first | refine Wq.moveE (by conv => { lhs; whnf }) ?_ | refine Wq.lenS rfl ?_ | refine Wq.nilP rfl ?_ | refine Wq.fieldAddr rfl rfl ?_ | refine Wq.add rfl rfl (by omega) (by omega) ?_))
                refine Wq.load1 rfl (fun w' hw => (bmk.chg hw id).cell (o := 2) rfl) ?_
                (repeat' (refine Wq.lenS rfl ?_))
                refine Wq.remW rfl rfl (by omega) ?_
                rw [hq']
                refine Wq.idxAddrV nums (fun w' hw => New.keep hw) rfl rfl hq4 hx fun b o hc => ?_
                refine Wq.load1 rfl hc ?_
                (repeat' (first | refine Wq.assignE (by conv => { lhs; whnf }) ?_ | refine Wq.nil ?_))
                intro w10 n10
                exact ⟨rfl, x, ⟨rfl, rfl, rfl, rfl, rfl, trivial⟩, n10⟩
              · exact ⟨rfl, st.n, ⟨rfl, rfl, rfl, rfl, rfl, trivial⟩, Chg.refl _ _⟩
          · rintro F w10 ⟨x, hag, n10⟩
            rw [← upds_of_agrees hag]
            simp only [upds]
            have W10 := W.new n10
            have s10 := n10.size
            (repeat' (first | refine Wl.moveE (by conv => { lhs; whnf }) ?_ | refine Wc.seq ?_ | refine Wc.region ?_))
            refine Wl.call (TakeRf_spec (n := x) W10.T.m I) rfl ?_
            rintro _ w11 ⟨rfl, ⟨Pm11, cv11, pv11, nv11, m11, hPm11⟩, c11⟩
            have st11 := W10.T.s.chg c11 fun b hb e => hdj b (.inr e)
            have s11 := c11.size
            (repeat' (first | refine Wl.moveE (by conv => { lhs; whnf }) ?_ | refine Wl.assignE (by conv => { lhs; whnf }) ?_ | refine Wl.nil ?_ | refine Qseq.normal ?_ | refine Wc.seq ?_ | refine Wc.region ?_))
            refine Wl.call (Take_spec (n := x) st11 (by have := W.lo; omega) wf) rfl ?_
            rintro _ w12 ⟨rfl, ⟨lb12, bv12, rv12, st12, hl12⟩, c12⟩
            have s12 := c12.size
            have hlbt : ∀ b, lb b = some true → b < w9.heap.size := fun b e => (W.T.s.low b true e).2
            have m12 := m11.chg c12 fun b hb' e => ⟨fun e2 => by
              rcases hPm11 b e2 with e3 | e3
              · have := hdj b (.inl e3); rw [this] at e; cases e
              · have := hlbt b e; omega, fun e2 => by have := hdj b (.inr e2); rw [this] at e; cases e⟩
            (repeat' (first | refine Wl.moveE (by conv => { lhs; whnf }) ?_ | refine Wl.nil ?_ | refine Qseq.normal ?_ | refine Wc.skip ?_ | refine Qblk.normal ?_ | refine Wc.condF rfl ?_ | (refine Wl.neq rfl rfl (fun _ => ?_) (fun _ => ?_) <;> (first | (exfalso; omega) | skip))))
            refine ⟨rfl, (stkTake S x).1, lb12, Pm11, _, _, _, _, _, ⟨rfl, rfl, rfl, rfl, trivial⟩, (I.take x).mono (by omega), ⟨st12, m12, fun b e => ?_⟩, ⟨W.lo.1, by have := W.lo.2; omega⟩, fun b e => ?_, W.bm, ?_⟩
            · rcases e with e | rfl
              · have h1 := m11.lt b e
                rcases hPm11 b e with e3 | e3
                · exact (hl12 b h1).trans (hdj b (.inl e3))
                · exact (hl12 b h1).trans (hlb b (by omega))
              · exact (hl12 _ (by omega)).trans (hdj _ (.inr rfl))
            · rcases hPm11 b e with e3 | e3
              · exact W.pm b e3
              · omega
            · exact Chg.trans (Chg.trans W10.n c11 fun b hb' e => by omega) c12 fun b hb' e => by have := (W.T.s.low b true e).1; have := W.lo.1; omega
        · exact ⟨rfl, S, lb, Pm, _, _, _, _, _, ⟨rfl, rfl, rfl, rfl, trivial⟩, I.mono (by omega), W⟩
      · rintro F w20 ⟨S', lb', Pm', bv', rv', cv', pv', nv', hag, I', W'⟩
        rw [← upds_of_agrees hag]
        simp only [upds]
        (repeat' (first | refine Wl.moveE (by conv => { lhs; whnf }) ?_ | refine Wc.seq ?_ | refine Wc.region ?_))
        refine Wl.call (asked_spec W'.T I' (by omega)) rfl ?_
        rintro _ w21 ⟨rfl, n21⟩
        (repeat' (first | refine Wl.moveE (by conv => { lhs; whnf }) ?_ | refine Wl.assignE (by conv => { lhs; whnf }) ?_ | refine Wl.nil ?_ | refine Wl.notB rfl ?_ | refine Qseq.normal ?_ | refine Wc.region ?_ | refine Wc.skip ?_ | refine Qblk.normal ?_ | refine Wc.condF rfl ?_ | refine Wl.add rfl rfl (by omega) (by omega) ?_))
        exact Qloop.normal (i + 1, S', lb', Pm', bv', rv', cv', pv', nv') ⟨rfl, rfl, rfl, rfl, trivial⟩ ⟨by dsimp only; omega, by dsimp only; omega, I', W'.new n21⟩ (by dsimp only; omega)
    · (repeat' (first | refine Wl.moveE (by conv => { lhs; whnf }) ?_ | refine Wc.seq ?_ | refine Wc.region ?_))
      refine Wl.call (asked_spec W.T I (by omega)) rfl ?_
      rintro _ w21 ⟨rfl, n21⟩
      (repeat' (first | refine Wl.assignE (by conv => { lhs; whnf }) ?_ | refine Wl.nil ?_ | refine Qseq.normal ?_ | refine Wc.ret ?_))
      exact Qfn.ret1 rfl rfl ⟨_, rfl, rfl, New.trans W.n n21⟩
    · (repeat' (first | refine Wl.moveE (by conv => { lhs; whnf }) ?_ | refine Wc.seq ?_ | refine Wc.region ?_))
      refine Wl.call (asked_spec W.T I (by omega)) rfl ?_
      rintro _ w21 ⟨rfl, n21⟩
      (repeat' (first | refine Wl.assignE (by conv => { lhs; whnf }) ?_ | refine Wl.nil ?_ | refine Qseq.normal ?_ | refine Wc.ret ?_))
      exact Qfn.ret1 rfl rfl ⟨_, rfl, rfl, New.trans W.n n21⟩
end Go.Proofs.YtjpebmgllfiloaaDoor

namespace Go.Proofs.YtjpebmgllfiloaaDoor
open Go Wk

theorem bulk_pr {H : Type} (x : Pr) (d : DataW H) (h : datPr H x d) : x.1.length + x.2.length ≤ Rows.uptoBulk d := by
  obtain ⟨d0, d1, rfl, h0, h1⟩ := h
  have b0 := bulk_str x.1 d0 h0
  have b1 := bulk_str x.2 d1 h1
  simp only [Rows.uptoBulk, Rows.uptoBulkAll]
  omega
theorem bulk_nd1 {H : Type} (x : Nd) (d : DataW H) (h : datNd H x d) : x.props.length ≤ Rows.uptoBulk d := by
  obtain ⟨d0, d1, d2, rfl, h0, h1, h2⟩ := h
  have := bulk_sl h2
  simp only [Rows.uptoBulk, Rows.uptoBulkAll]
  omega
theorem bulk_nd2 {H : Type} (x : Nd) (d : DataW H) (h : datNd H x d) : (x.props.map fun p : Pr => p.1.length + p.2.length).sum ≤ Rows.uptoBulk d := by
  obtain ⟨d0, d1, d2, rfl, h0, h1, h2⟩ := h
  have := bulk_slsum (fun p : Pr => p.1.length + p.2.length) bulk_pr h2
  simp only [Rows.uptoBulk, Rows.uptoBulkAll]
  omega
theorem bd_nds {H : Type} {t : List Nd} {d : DataW H} (h : datSl datNd H t d) (hb : Rows.uptoBulk d ≤ 1048576) : Bd t := by
  refine ⟨?_, fun x hx => ?_, fun x hx p hp => ?_⟩
  · have := bulk_sl h; omega
  · have h1 := bulk_slsum (fun x : Nd => x.props.length) bulk_nd1 h
    have h2 := sum_ge (List.mem_map.2 ⟨x, hx, rfl⟩ : (fun x : Nd => x.props.length) x ∈ t.map fun x : Nd => x.props.length)
    dsimp only at h2; omega
  · have h1 := bulk_slsum (fun x : Nd => (x.props.map fun p : Pr => p.1.length + p.2.length).sum) bulk_nd2 h
    have h2 := sum_ge (List.mem_map.2 ⟨x, hx, rfl⟩ : (fun x : Nd => (x.props.map fun p : Pr => p.1.length + p.2.length).sum) x ∈ t.map fun x : Nd => (x.props.map fun p : Pr => p.1.length + p.2.length).sum)
    have h3 := sum_ge (List.mem_map.2 ⟨p, hp, rfl⟩ : (fun p : Pr => p.1.length + p.2.length) p ∈ x.props.map fun p : Pr => p.1.length + p.2.length)
    dsimp only at h2 h3; omega
theorem bd_pc {H : Type} {x : Pc} {d : DataW H} (h : datPc H x d) (hb : Rows.uptoBulk d ≤ 1048576) : Bd x.nodes ∧ x.drop.length ≤ 1500000 ∧ x.target.length ≤ 1500000 := by
  have h0 := bulk_pc x d h
  obtain ⟨d0, d1, d2, rfl, h1, h2, h3⟩ := h
  refine ⟨bd_nds h2 ?_, by omega, by omega⟩
  simp only [Rows.uptoBulk, Rows.uptoBulkAll] at hb
  omega
end Go.Proofs.YtjpebmgllfiloaaDoor

namespace Go.Proofs.YtjpebmgllfiloaaDoor
open Go Wk

theorem cBool : Tryd.prog.cellsOf 4 = 1 := by kernel_rfl
theorem cStp : Tryd.prog.cellsOf 65 = 6 := by kernel_rfl
theorem len4 {α : Type} {l : List α} (h : l.length = 4) : ∃ a b c d, l = [a, b, c, d] := by
  match l, h with
  | [a, b, c, d], _ => exact ⟨a, b, c, d, rfl⟩
theorem len6 {α : Type} {l : List α} (h : l.length = 6) : ∃ a b c d e f, l = [a, b, c, d, e, f] := by
  match l, h with
  | [a, b, c, d, e, f], _ => exact ⟨a, b, c, d, e, f, rfl⟩
def datStp : Dat Stp := fun H x d => ∃ d0 d1 d2 d3, d = .agg [d0, d1, d2, d3] ∧ datInt .i64 H x.kind d0 ∧ datPc H x.p d1 ∧ datBool H x.back d2 ∧ datInt .i64 H x.n d3
theorem opens_stp : Opens Tryd.prog 65 rStp datStp := by
  intro H enc w fuel cs d ps h
  obtain ⟨xs, n, rfl, hx, hl, hlen, hf⟩ := DataW.trod_struct Tryd.underlying65 h
  rw [cStp] at hl
  obtain ⟨c0, c1, c2, c3, c4, c5, rfl⟩ := len6 hl
  obtain ⟨y0, y1, y2, y3, rfl⟩ := len4 (show xs.length = 4 from hlen)
  have e0 : DataW.trod enc Tryd.prog w 0 (fun _ => true) true n 3 (([c0, c1, c2, c3, c4, c5].drop 0).take (Tryd.prog.cellsOf 3)) = some y0 := hf 0 _ rfl
  rw [cInt] at e0
  have e1 : DataW.trod enc Tryd.prog w 0 (fun _ => true) true n 25 (([c0, c1, c2, c3, c4, c5].drop 1).take (Tryd.prog.cellsOf 25)) = some y1 := hf 1 _ rfl
  rw [cPc] at e1
  have e2 : DataW.trod enc Tryd.prog w 0 (fun _ => true) true n 4 (([c0, c1, c2, c3, c4, c5].drop 4).take (Tryd.prog.cellsOf 4)) = some y2 := hf 2 _ rfl
  rw [cBool] at e2
  have e3 : DataW.trod enc Tryd.prog w 0 (fun _ => true) true n 3 (([c0, c1, c2, c3, c4, c5].drop 5).take (Tryd.prog.cellsOf 3)) = some y3 := hf 3 _ rfl
  rw [cInt] at e3
  cases hx
  obtain ⟨s0, r0, q0⟩ := opens_int Tryd.underlying3 H enc w n _ _ _ e0
  obtain ⟨s1, r1, q1⟩ := opens_pc H enc w n _ _ _ e1
  obtain ⟨s2, r2, q2⟩ := opens_bool Tryd.underlying4 H enc w n _ _ _ e2
  obtain ⟨s3, r3, q3⟩ := opens_int Tryd.underlying3 H enc w n _ _ _ e3
  have r0' : [c0] = [vi s0] := r0 (fun _ => True) (fun _ _ => trivial)
  have r2' : [c4] = [.bool s2] := r2 (fun _ => True) (fun _ _ => trivial)
  have r3' : [c5] = [vi s3] := r3 (fun _ => True) (fun _ _ => trivial)
  cases r0'
  cases r2'
  cases r3'
  refine ⟨⟨s0, s1, s2, s3⟩, fun Pb hP => ?_, _, _, _, _, rfl, q0, q1, q2, q3⟩
  obtain ⟨⟨nv, dv, hv, hr1, hr2⟩⟩ := r1 Pb fun p hp => hP p (by simp; exact .inr (.inl hp))
  have hv' : [c1, c2, c3] = [vs s1.target, nv, dv] := hv
  simp only [List.cons.injEq, and_true] at hv'
  obtain ⟨rfl, rfl, rfl⟩ := hv'
  exact ⟨_, _, rfl, hr1, hr2⟩
theorem opens_steps : Opens Tryd.prog 59 (rSl rStp 6) (datSl datStp) := opens_slice Tryd.underlying59 cStp (by decide) opens_stp
theorem bulk_all {H : Type} {l : List (DataW H)} {d : DataW H} (h : d ∈ l) : Rows.uptoBulk d ≤ Rows.uptoBulkAll l := by
  induction l with
  | nil => simp at h
  | cons x r ih =>
    simp only [Rows.uptoBulkAll]
    rcases List.mem_cons.1 h with rfl | h
    · omega
    · have := ih h; omega
theorem bd_steps {H : Type} {l : List Stp} {d : DataW H} (h : datSl datStp H l d) (hb : Rows.uptoBulk d ≤ 1048576) : ∀ s ∈ l, Bd s.p.nodes ∧ s.p.drop.length ≤ 1500000 ∧ s.p.target.length ≤ 1500000 := by
  intro s hs
  obtain ⟨i, hi⟩ := List.mem_iff_getElem?.1 hs
  rcases h with ⟨rfl, rfl⟩ | ⟨es, sp, rfl, hl, hd⟩
  · simp at hi
  · obtain ⟨y, hy, hD⟩ := hd i s hi
    have h1 := bulk_all (List.mem_of_getElem? hy)
    simp only [Rows.uptoBulk] at hb
    obtain ⟨d0, d1, d2, d3, rfl, q0, q1, q2, q3⟩ := hD
    simp only [Rows.uptoBulk, Rows.uptoBulkAll] at h1
    exact bd_pc q1 (by omega)
end Go.Proofs.YtjpebmgllfiloaaDoor
