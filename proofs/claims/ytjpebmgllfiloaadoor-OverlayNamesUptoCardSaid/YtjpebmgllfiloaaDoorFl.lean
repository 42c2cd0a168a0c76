/-
  Walks of overlay.flat and its visit: the tree of a knot, in preorder.
-/
import Derived.Test.YtjpebmgllfiloaaDoorTo
namespace Go.Proofs.YtjpebmgllfiloaaDoor
open Go Wk
open Go.RowKit (Below)
attribute [local irreducible] Go.Calls

def flatG (G : List Kn) : Nat → Nat → Int → List Nd → List Nd
  | 0, _, _, acc => acc
  | f + 1, i, up, acc => match G[i]? with
    | none => acc
    | some k => k.kids.foldl (fun a j => flatG G f j (acc.length : Int) a) (acc ++ [⟨up, k.name, k.props⟩])
theorem flatG_ext (G : List Kn) : ∀ (f i : Nat) (up : Int) (acc : List Nd), ∃ r, flatG G f i up acc = acc ++ r
  | 0, _, _, acc => ⟨[], by simp [flatG]⟩
  | f + 1, i, up, acc => by
    rw [flatG]
    split
    · exact ⟨[], by simp⟩
    · rename_i k _
      have : ∀ (l : List Nat) (a : List Nd), ∃ r, l.foldl (fun a j => flatG G f j (acc.length : Int) a) a = a ++ r := by
        intro l
        induction l with
        | nil => exact fun a => ⟨[], by simp⟩
        | cons j l ih =>
          intro a
          obtain ⟨r1, h1⟩ := flatG_ext G f j (acc.length : Int) a
          obtain ⟨r2, h2⟩ := ih (flatG G f j (acc.length : Int) a)
          exact ⟨r1 ++ r2, by rw [List.foldl_cons, h2, h1, List.append_assoc]⟩
      obtain ⟨r, h⟩ := this k.kids (acc ++ [⟨up, k.name, k.props⟩])
      exact ⟨[⟨up, k.name, k.props⟩] ++ r, by rw [h, List.append_assoc]⟩
theorem foldl_ext (G : List Kn) (f : Nat) (u : Int) : ∀ (l : List Nat) (a : List Nd), a.length ≤ (l.foldl (fun a j => flatG G f j u a) a).length
  | [], a => by simp
  | j :: l, a => by
    obtain ⟨r, h⟩ := flatG_ext G f j u a
    have := foldl_ext G f u l (flatG G f j u a)
    rw [List.foldl_cons]
    rw [h] at this ⊢
    simp only [List.length_append] at this
    omega
abbrev visitV (tb vb : Nat) : Value := .func (.func 72) #[] #[ptrV tb, ptrV vb]
/-- What visit needs, and keeps. -/
structure Vis (lo lo2 tb vb : Nat) (lab : Lab) (w : World) (bs : List Nat) (G : List Kn) : Prop where
  kg : KG lo lab w bs G
  up : ∀ b, lo2 ≤ b → lab b = none
  tbl : tb < lo2 ∧ lab tb = none
  vbl : vb < lo2 ∧ vb ≠ tb ∧ lab vb = none
  fv : Bk w vb 115 [visitV tb vb]
  prl : ∀ (i : Nat) (k : Kn), G[i]? = some k → k.props.length ≤ 1000
  sz : lo2 ≤ w.heap.size
  gl : G.length ≤ 100000
theorem Vis.chg {lo lo2 tb vb : Nat} {lab : Lab} {w w' : World} {bs : List Nat} {G : List Kn} (h : Vis lo lo2 tb vb lab w bs G) (c : Chg (fun b => b = tb ∨ lo2 ≤ b) w w') : Vis lo lo2 tb vb lab w' bs G :=
  ⟨h.kg.chg c fun b _ e => by rcases e with rfl | e; exact h.tbl.2; exact h.up b e, h.up, h.tbl, h.vbl, h.fv.chg c fun e => by rcases e with e | e; exact h.vbl.2.1 e; have := h.vbl.1; omega, h.prl, Nat.le_trans h.sz c.size, h.gl⟩

set_option maxHeartbeats 2000000 in
set_option maxRecDepth 4000 in
theorem visit_spec {lo lo2 tb vb : Nat} {lab : Lab} {bs : List Nat} {G : List Kn} : ∀ (f i : Nat) (up : Int) (w : World) (acc : List Nd) (tv : Value) (lab2 : Lb) (pvs : List Sl),
    i < G.length → G.length - i ≤ f → Vis lo lo2 tb vb lab w bs G → Bk w tb 22 [tv] → TrOwn lo2 lab2 w tv acc pvs → (flatG G f i up acc).length ≤ 100000 →
    Calls Tryd.prog 72 #[ptrV (bs.getD i 0), vi up, ptrV tb, ptrV vb] w (Ret fun r w' => r = .tuple #[] ∧ ∃ tv' lab' pvs', Bk w' tb 22 [tv'] ∧ TrOwn lo2 lab' w' tv' (flatG G f i up acc) pvs' ∧ Chg (fun b => b = tb ∨ lo2 ≤ b) w w') := by
  intro f
  induction f with
  | zero => intro i _ _ _ _ _ _ hi hf; omega
  | succ f ih =>
    intro i up w acc tv lab2 pvs hi hf hv hb ht hB
    obtain ⟨k, hk⟩ := get_lt G hi
    obtain ⟨pv, kv, ka⟩ := hv.kg.at' i k hk
    rw [flatG, hk] at hB
    rw [flatG, hk]
    simp only at hB ⊢
    have hacc : acc.length + 1 ≤ 100000 := by
      have := foldl_ext G f (acc.length : Int) k.kids (acc ++ [⟨up, k.name, k.props⟩])
      simp only [List.length_append, List.length_singleton] at this
      omega
    have hzl : (acc.zip pvs).length = acc.length := by simp [ht.len]
    obtain ⟨ta, tc, htv, _, _⟩ := ht.arr.form
    rw [hzl] at htv
    subst htv
    refine calls_of_Wc Tryd.func72 rfl Tryd.ntmps72 rfl ?_
    (repeat' (first | refine Wc.seq ?_ | refine Wc.region ?_))
    refine Wl.load1 rfl (hb.cell (o := 0) rfl) ?_
    (repeat' (first | refine Wl.assignE (by conv => { lhs; whnf }) ?_ | refine Wl.nil ?_ | refine Wl.lenS rfl ?_ | refine Qseq.normal ?_ | refine Wc.seq ?_))
    refine Wc.regionM [0, 1, 2, 3, 4, 5, 6, 7, 8, 9] [10, 11, 12, 13, 14] rfl (by kernel_rfl) (by simp only [pick, List.getElem?_cons_succ, List.getElem?_cons_zero]; rfl) (by simp only [pick, List.getElem?_cons_succ, List.getElem?_cons_zero]; rfl) (fun w' => Chg (fun b => lo2 ≤ b) w w') (Chg.drew _ _) ?_
    have tq : ∀ w', Chg (fun b => lo2 ≤ b) w w' → Bk w' tb 22 [.slice ta acc.length tc] := fun w' hw => hb.chg hw (fun e => by have := hv.tbl.1; omega)
    have kq : ∀ w', Chg (fun b => lo2 ≤ b) w w' → Bk w' (bs.getD i 0) tKn [vs k.name, pv, kv] := fun w' hw => ka.bk.chg hw (fun e => by have := hv.up _ e; rw [ka.lb] at this; cases this)
    refine Wq.load1 rfl (fun w' hw => (tq w' hw).cell (o := 0) rfl) ?_
    (repeat' (first | refine Wq.moveE (by conv => { lhs; whnf }) ?_ | refine Wq.nilP rfl ?_ | refine Wq.fieldAddr rfl rfl ?_))
    refine Wq.load1 rfl (fun w' hw => (kq w' hw).cell (o := 0) rfl) ?_
    (repeat' (first | refine Wq.moveE (by conv => { lhs; whnf }) ?_ | refine Wq.nilP rfl ?_ | refine Wq.fieldAddr rfl rfl ?_))
    refine Wq.load1 rfl (fun w' hw => (kq w' hw).cell (o := 1) rfl) ?_
    (repeat' (refine Wq.nil ?_))
    intro w1 n1
    refine Wch.cons ?_
    refine Wl.call (ClonePr_spec ((ka.pr.new plainPr n1).rd (mono_flat pC)) (by have := hv.prl i k hk; omega)) rfl ?_
    rintro qv w2 ⟨oq, n2⟩
    obtain ⟨qa, qc, rfl, _, _⟩ := oq.form
    have n12 := New.trans n1 n2
    refine Wl.nil ⟨rfl, n12.any, ?_⟩
    refine Wch.cons ?_
    refine Wl.buildF (ps := [(0, .tmp 12), (1, .tmp 16), (2, .tmp 21)]) (parts := [(0, vi up), (1, vs k.name), (2, .slice qa k.props.length qc)]) rfl rfl (by simp [Value.cells]) ?_
    refine Wl.nil ⟨rfl, n12.any, ?_⟩
    refine Wch.cons ?_
    refine Wl.buildSlice1 (R := flat ndV) (y := (⟨up, k.name, k.props⟩, (qa, k.props.length, qc))) (Pe := No) goodNdV rfl rfl rfl rfl (by omega) (by omega) fun vt w3 ot n3 s3 hobt => ?_
    have n13 := New.trans n12 n3
    refine Wl.nil ⟨rfl, n13.any, ?_⟩
    refine Wch.cons ?_
    have ht3 := ht.new n13
    refine Wl.appendAll goodNdV ht3.arr (ot.rd (mono_flat ndV)) (fun y cs hy => hy) rfl rfl (by omega) (by simp only [maxLen, List.length_singleton]; omega) (by simp only [List.length_singleton]; omega) fun tv4 w4 o4 c4 lie _ => ?_
    have c04 : Chg (fun b => lo2 ≤ b) w w4 := Chg.trans n13.any c4 fun b hb e => (ht.low b _ (ht.arr.lt e).1).1
    refine Wl.nil ⟨rfl, c04, ?_⟩
    refine Wch.last ?_
    have hb4 := hb.chg c04 (fun e => by have := hv.tbl.1; omega)
    have h4 : tv4.oneCell' = true := by obtain ⟨_, _, rfl, _⟩ := o4.form; rfl
    refine Wl.store1 hb4 rfl (show (0 : Nat) < 1 by omega) rfl h4 fun w5 b5 c5 => ?_
    replace b5 : Bk w5 tb 22 [tv4] := b5
    have s01 := n1.size
    obtain ⟨lab4, t4⟩ := ht.snoc hv.sz n13 ((oq.mono (Pb' := fun b => w.heap.size ≤ b) (mono_flat pC) (fun b _ h => by omega) (fun _ _ e => e)).new plainPr n3) o4 c4
    have t5 := t4.chg c5 (fun b _ e => by
      cases e' : lab4 b with
      | none => rfl
      | some q => have := (t4.low b q e').1; have := hv.tbl.1; omega)
    have c05 : Chg (fun b => b = tb ∨ lo2 ≤ b) w w5 := Chg.trans (c04.mono fun b _ e => .inr e) c5 fun b _ e => .inl e
    have hv5 := hv.chg c05
    have ka5 := ka.chg c05 (fun b e q e' => by
      rcases e with rfl | e
      · rw [hv.tbl.2] at e'; cases e'
      · rw [hv.up b e] at e'; cases e')
    clear ht ht3 hb4 c04 c4 c5 o4 t4 oq ot n1 n2 n3 n12 n13
    generalize hRES : k.kids.foldl (fun a j => flatG G f j (acc.length : Int) a) (acc ++ [⟨up, k.name, k.props⟩]) = RES at hB ⊢
    (repeat' (first | refine Wl.moveE (by conv => { lhs; whnf }) ?_ | refine Wl.nil ?_ | refine Qseq.normal ?_ | refine Wc.seq ?_ | refine Wc.region ?_ | refine Wl.nilP rfl ?_ | refine Wl.fieldAddr rfl rfl ?_))
    refine Wl.load1 rfl (ka5.bk.cell (o := 2) rfl) ?_
    obtain ⟨kp, kc, hkv, _, _⟩ := ka5.kd.form
    rw [List.length_map] at hkv
    subst hkv
    have hkl := hv5.kg.kids_le hk
    have hgl := hv.gl
    (repeat' (first | refine Wl.moveE (by conv => { lhs; whnf }) ?_ | refine Wl.nil ?_ | refine Wl.lenS rfl ?_ | refine Qseq.normal ?_ | refine Wc.block ?_))
    refine Wc.loop (σ := Nat × List Nd × Value × Lb × List Sl) (fun s => [(2, ptrV tb), (3, ptrV vb), (6, vi acc.length), (28, .slice kp k.kids.length kc), (29, vi k.kids.length), (30, vi s.1)])
      (fun s w' => s.1 ≤ k.kids.length ∧ (k.kids.drop s.1).foldl (fun a j => flatG G f j (acc.length : Int) a) s.2.1 = RES ∧ Bk w' tb 22 [s.2.2.1] ∧ TrOwn lo2 s.2.2.2.1 w' s.2.2.1 s.2.1 s.2.2.2.2 ∧ Chg (fun b => b = tb ∨ lo2 ≤ b) w w') (fun s => k.kids.length - s.1)
      (0, acc ++ [⟨up, k.name, k.props⟩], tv4, lab4, pvs ++ [(qa, k.props.length, qc)]) ⟨rfl, rfl, rfl, rfl, rfl, rfl, trivial⟩ ⟨Nat.zero_le _, hRES, b5, t5, c05⟩ ?_
    rintro ⟨q, a, tvq, labq, pvq⟩ G6 w6 ⟨hq, hfold, b6, t6, c6⟩
    dsimp only at hq hfold b6 t6 c6
    simp only [upds]
    (repeat' (first | refine Wl.nil ?_ | refine Qseq.normal ?_ | refine Wc.seq ?_ | refine Wc.region ?_ | refine Wc.block ?_ | refine Wc.skip ?_ | refine Wc.exit ?_ | refine Qseq.exit ?_ | refine Qblk.hit ?_ | refine Qloop.exit ?_ | refine Wc.condT rfl ?_ | refine Wc.condF rfl ?_ | refine Wl.lss rfl rfl (fun _ => ?_) (fun _ => ?_)))
    · obtain ⟨j, hj⟩ := get_lt k.kids (k := q) (by omega)
      have ka6 := ka.chg c6 (fun b e q e' => by
        rcases e with rfl | e
        · rw [hv.tbl.2] at e'; cases e'
        · rw [hv.up b e] at e'; cases e')
      have hv6 := hv.chg c6
      have hjk := hv.kg.kid i k hk j (List.mem_of_getElem? hj)
      have hkd : OwnKids (fun x => lab x = some (i, 2)) w6 (.slice kp k.kids.length kc) (k.kids.map fun j => bs.getD j 0) := ka6.kd
      refine Wl.idxAddrV (hkd.rd (mono_one _)) rfl rfl (by omega) (y := bs.getD j 0) (by rw [List.getElem?_map]; show Option.map _ k.kids[q]? = _; rw [hj]; rfl) fun b o hc => ?_
      refine Wl.load1 rfl hc ?_
      (repeat' (first | refine Wl.assignE (by conv => { lhs; whnf }) ?_ | refine Wl.nil ?_ | refine Qseq.normal ?_ | refine Wc.region ?_))
      refine Wl.load1 rfl (hv6.fv.cell (o := 0) rfl) ?_
      (repeat' (refine Wl.moveE (by conv => { lhs; whnf }) ?_))
      rw [drop_cons hj, List.foldl_cons] at hfold
      have hBj : (flatG G f j (acc.length : Int) a).length ≤ 100000 := by
        have := foldl_ext G f (acc.length : Int) (k.kids.drop (q + 1)) (flatG G f j (acc.length : Int) a)
        rw [hfold] at this
        omega
      refine Wl.callV (dst := some 37) (first := #[]) (cap := #[ptrV tb, ptrV vb]) rfl (ih j (acc.length : Int) w6 a tvq labq pvq hjk.2 (by omega) hv6 b6 t6 hBj) rfl ?_
      rintro _ w7 ⟨rfl, tv7, lab7, pvs7, b7, t7, c7⟩
      simp only [updO]
      (repeat' (first | refine Wl.moveE (by conv => { lhs; whnf }) ?_ | refine Wl.nil ?_ | refine Qseq.normal ?_ | refine Wc.region ?_ | refine Qblk.normal ?_ | refine Wl.add rfl rfl (by omega) (by omega) ?_))
      exact Qloop.normal (q + 1, flatG G f j (acc.length : Int) a, tv7, lab7, pvs7) ⟨rfl, rfl, rfl, rfl, rfl, rfl, trivial⟩ ⟨by dsimp only; omega, hfold, b7, t7, Chg.trans c6 c7 fun _ _ e => e⟩ (by dsimp only; omega)
    · have e : q = k.kids.length := by omega
      subst e
      rw [List.drop_length] at hfold
      simp only [List.foldl_nil] at hfold
      subst hfold
      exact Qfn.end0 rfl ⟨_, rfl, rfl, tvq, labq, pvq, b6, t6, c6⟩

set_option maxHeartbeats 1000000 in
theorem flat_spec {lo : Nat} {lab : Lab} {w : World} {bs : List Nat} {G : List Kn} (kg : KG lo lab w bs G) {i : Nat} (hi : i < G.length) (hp : ∀ (i : Nat) (k : Kn), G[i]? = some k → k.props.length ≤ 1000) (hg : G.length ≤ 100000) (hB : (flatG G G.length i (-1) []).length ≤ 100000) :
    Calls Tryd.prog 46 #[ptrV (bs.getD i 0)] w (Ret fun r w' => ∃ lab' pvs, TrOwn w.heap.size lab' w' r (flatG G G.length i (-1) []) pvs ∧ New w w') := by
  refine calls_of_Wc Tryd.func46 rfl Tryd.ntmps46 rfl ?_
  (repeat' (first | refine Wl.assignE (by conv => { lhs; whnf }) ?_ | refine Wl.nil ?_ | refine Qseq.normal ?_ | refine Wc.seq ?_ | refine Wc.region ?_))
  refine Wl.alloc fun w1 b1 n1 s1 => ?_
  (repeat' (first | refine Wl.nil ?_ | refine Qseq.normal ?_ | refine Wc.seq ?_ | refine Wc.region ?_))
  refine Wl.alloc fun w2 b2 n2 s2 => ?_
  (repeat' (first | refine Wl.nil ?_ | refine Qseq.normal ?_ | refine Wc.seq ?_ | refine Wc.region ?_))
  refine Wl.makeFunc (first := []) (cap := [.tmp 3, .tmp 4]) rfl rfl ?_
  refine Wl.store1 (u := visitV w.heap.size w1.heap.size) b2 rfl (show (0 : Nat) < 1 by omega) rfl rfl fun w3 b3 c3 => ?_
  have n3 : New w w3 := Chg.trans (New.trans n1 n2) c3 fun b hb e => by omega
  have b13 : Bk w3 w.heap.size 22 [.slice none 0 0] := (b1.chg n2 id).chg c3 (fun e => by omega)
  have sz3 := c3.size
  have hv : Vis lo (w1.heap.size + 1) w.heap.size w1.heap.size lab w3 bs G :=
    ⟨kg.new n3, fun b hb => kg.lab_none (.inl (by omega)), ⟨by omega, kg.lab_none (.inl (by omega))⟩, ⟨by omega, by omega, kg.lab_none (.inl (by omega))⟩, b3, hp, by omega, hg⟩
  (repeat' (first | refine Wl.nil ?_ | refine Qseq.normal ?_ | refine Wc.seq ?_ | refine Wc.region ?_))
  refine Wl.load1 rfl (hv.fv.cell (o := 0) rfl) ?_
  (repeat' (refine Wl.moveE (by conv => { lhs; whnf }) ?_))
  refine Wl.callV (dst := some 8) (first := #[]) (cap := #[ptrV w.heap.size, ptrV w1.heap.size]) rfl (visit_spec G.length i (-1) w3 [] (.slice none 0 0) _ [] hi (by omega) hv b13 TrOwn.nil hB) rfl ?_
  rintro _ w4 ⟨rfl, tv, lab', pvs, b4, t4, c4⟩
  simp only [updO]
  (repeat' (first | refine Wl.nil ?_ | refine Qseq.normal ?_ | refine Wc.seq ?_ | refine Wc.region ?_))
  refine Wl.load1 rfl (b4.cell (o := 0) rfl) ?_
  (repeat' (first | refine Wl.assignE (by conv => { lhs; whnf }) ?_ | refine Wl.nil ?_ | refine Qseq.normal ?_ | refine Wc.ret ?_))
  refine Qfn.ret1 rfl rfl ⟨_, rfl, lab', pvs, ⟨t4.len, fun b c e => ?_, t4.arr, t4.pr⟩, Chg.trans n3 c4 fun b hb e => by omega⟩
  have := t4.low b c e
  omega
end Go.Proofs.YtjpebmgllfiloaaDoor
