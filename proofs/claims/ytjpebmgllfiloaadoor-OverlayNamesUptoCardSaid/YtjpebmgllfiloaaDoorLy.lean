/-
  The walk of lay: a node of the piece, with all beneath it, laid over a knot.
-/
import Derived.Test.YtjpebmgllfiloaaDoorDel
namespace Go.Proofs.YtjpebmgllfiloaaDoor
open Go Wk
open Go.RowKit (Below)
attribute [local irreducible] Go.Calls

def setPr (ps : List Pr) (p : Pr) : List Pr := match ps.findIdx? (fun y => decide (y.1 = p.1)) with
  | some i => ps.set i (p.1, p.2)
  | none => ps ++ [p]
def kidIdx (G : List Kn) (k : Nat) (nm : List UInt8) : Option Nat := match G[k]? with
  | some kn => kn.kids.find? fun j => match G[j]? with | some x => decide (x.name = nm) | none => false
  | none => none
abbrev LayR := Bool × List Kn × Int
def layLoop (pn : List Nd) (k n : Nat) (rec : Nat → Nat → List Kn → Int → LayR) : List Nat → List Kn → Int → LayR
  | [], G, c => (true, G, c)
  | i :: r, G, c => match pn[i]? with
    | none => (true, G, c)
    | some x =>
      if x.parent ≠ (n : Int) then layLoop pn k n rec r G c
      else match kidIdx G k x.name with
        | some j => (match rec j i G c with | (true, G', c') => layLoop pn k n rec r G' c' | (false, G', c') => (false, G', c'))
        | none => if 512 < c + 1 then (false, G, c + 1)
          else (match rec G.length i (addKid (G ++ [⟨x.name, [], []⟩]) k G.length) (c + 1) with | (true, G', c') => layLoop pn k n rec r G' c' | (false, G', c') => (false, G', c'))
def layG (pn : List Nd) : Nat → Nat → Nat → List Kn → Int → LayR
  | 0, _, _, G, c => (false, G, c)
  | f + 1, k, n, G, c => match G[k]?, pn[n]? with
    | some kn, some x =>
      let ps := x.props.foldl setPr kn.props
      let G1 := G.set k { kn with props := ps }
      if 32 < ps.length then (false, G1, c) else layLoop pn k n (fun j i G c => layG pn f j i G c) ((List.range pn.length).drop (n + 1)) G1 c
    | _, _ => (false, G, c)
theorem setPr_length (ps : List Pr) (p : Pr) : ps.length ≤ (setPr ps p).length ∧ (setPr ps p).length ≤ ps.length + 1 := by
  unfold setPr; split <;> simp
theorem foldl_setPr_length : ∀ (l ps : List Pr), ps.length ≤ (l.foldl setPr ps).length ∧ (l.foldl setPr ps).length ≤ ps.length + l.length
  | [], ps => by simp
  | p :: l, ps => by
    have h1 := setPr_length ps p
    have h2 := foldl_setPr_length l (setPr ps p)
    rw [List.foldl_cons]
    simp only [List.length_cons]
    omega

/-- The kid of a name, by its block. -/
theorem kid_cases {lo : Nat} {lab : Lab} {w : World} {bs : List Nat} {G : List Kn} (kg : KG lo lab w bs G) {k : Nat} {kn : Kn} (hk : G[k]? = some kn) (nm : List UInt8) (p : Nat → Bool)
    (hp : ∀ j y, G[j]? = some y → p (bs.getD j 0) = decide (y.name = nm)) :
    (idx p (kn.kids.map fun j => bs.getD j 0) = -1 ∧ kidIdx G k nm = none) ∨ ∃ i j, idx p (kn.kids.map fun j => bs.getD j 0) = (i : Nat) ∧ kn.kids[i]? = some j ∧ kidIdx G k nm = some j := by
  have hpj : ∀ j ∈ kn.kids, p (bs.getD j 0) = (match G[j]? with | some x => decide (x.name = nm) | none => false) := fun j hj => by
    obtain ⟨y, hy⟩ := get_lt G (kg.kid k kn hk j hj).2
    rw [hp j y hy, hy]
  unfold kidIdx
  rw [hk]
  dsimp only
  rcases idx_cases p (kn.kids.map fun j => bs.getD j 0) with ⟨e, hno⟩ | ⟨i, b, e, hi, hpb, hbef⟩
  · refine .inl ⟨e, List.find?_eq_none.2 fun j hj => ?_⟩
    have := hno (bs.getD j 0) (List.mem_map.2 ⟨j, hj, rfl⟩)
    rw [hpj j hj] at this
    rw [this]; simp
  · rw [List.getElem?_map] at hi
    obtain ⟨j, hj, rfl⟩ := Option.map_eq_some_iff.1 hi
    refine .inr ⟨i, j, e, hj, ?_⟩
    rw [List.find?_eq_some_iff_append]
    rw [hpj j (List.mem_of_getElem? hj)] at hpb
    refine ⟨hpb, kn.kids.take i, kn.kids.drop (i + 1), ?_, fun q hq => ?_⟩
    · rw [← drop_cons hj, List.take_append_drop]
    · have hqk := List.mem_of_mem_take hq
      have := hbef (bs.getD q 0) (by rw [← List.map_take]; exact List.mem_map.2 ⟨q, hq, rfl⟩)
      rw [hpj q hqk] at this
      rw [this]; rfl
/-- What lay needs of memory, and keeps: the graph, its counter's block, the piece. -/
structure LayW (lo bl : Nat) (lab : Lab) (w : World) (bs : List Nat) (G : List Kn) (pvl : Value) (pn : List Nd) (c : Int) : Prop where
  kg : KG lo lab w bs G
  bk : Bk w bl 82 [pvl, vi c]
  bln : lo ≤ bl ∧ lab bl = none
  rd : RdS rNd 3 (fun b => b < lo) w pvl pn
  gl : (G.length : Int) = c
  pl : ∀ (i : Nat) (k : Kn), G[i]? = some k → k.props.length ≤ 32
  sz : lo ≤ w.heap.size
/-- What may have turned. -/
abbrev LayC (bl : Nat) (lab : Lab) (w w' : World) : Prop := Chg (fun b => b = bl ∨ lab b ≠ none) w w'
theorem LayW.new {lo bl : Nat} {lab : Lab} {w w' : World} {bs : List Nat} {G : List Kn} {pvl : Value} {pn : List Nd} {c : Int} (h : LayW lo bl lab w bs G pvl pn c) (n : New w w') : LayW lo bl lab w' bs G pvl pn c :=
  ⟨h.kg.new n, h.bk.chg n id, h.bln, h.rd.keep stableNd n.keep, h.gl, h.pl, Nat.le_trans h.sz n.size⟩

set_option maxHeartbeats 2000000 in
set_option maxRecDepth 4000 in
theorem lay_spec {lo bl : Nat} {pvl : Value} {pn : List Nd} (hpn : treeOk pn = true) : ∀ (f k n : Nat) (G : List Kn) (c : Int) (w : World) (bs : List Nat) (lab : Lab),
    k < G.length → n < pn.length → pn.length - n ≤ f → c ≤ 512 → LayW lo bl lab w bs G pvl pn c →
    Calls Tryd.prog 45 #[ptrV bl, ptrV (bs.getD k 0), vi n] w (Ret fun r w' => r = .bool (layG pn f k n G c).1 ∧ LayC bl lab w w' ∧ ((layG pn f k n G c).1 = true → ∃ lab' bs', LayW lo bl lab' w' (bs ++ bs') (layG pn f k n G c).2.1 pvl pn (layG pn f k n G c).2.2 ∧ (layG pn f k n G c).2.2 ≤ 512 ∧ ∀ b, b < w.heap.size → lab' b = lab b)) := by
  intro f
  induction f with
  | zero => intro k n G c w bs lab hk hn hf; omega
  | succ f ih =>
    intro k n G c w bs lab hk hn hf hc hw
    obtain ⟨kn, hkn⟩ := get_lt G hk
    obtain ⟨x, hx⟩ := get_lt pn hn
    have hxo := treeOk_nd hpn hx
    have hxl := propsOk_len hxo.pr
    have hnl := treeOk_len hpn
    rw [layG, hkn, hx]
    dsimp only
    obtain ⟨pa, pc, hpv, _, _⟩ := hw.rd.form
    subst hpv
    refine calls_of_Wc Tryd.func45 rfl Tryd.ntmps45 rfl ?_
    (repeat' (first | refine Wl.moveE (by conv => { lhs; whnf }) ?_ | refine Wl.assignE (by conv => { lhs; whnf }) ?_ | refine Wl.nil ?_ | refine Qseq.normal ?_ | refine Wc.seq ?_ | refine Wc.region ?_ | refine Wl.nilP rfl ?_ | refine Wl.fieldAddr rfl rfl ?_))
    refine Wl.load1 rfl (hw.bk.cell (o := 0) rfl) ?_
    (repeat' (refine Wl.moveE (by conv => { lhs; whnf }) ?_))
    refine Wl.idxAddr hw.rd rfl rfl (by omega) hx fun b o cs hl hR hat => ?_
    obtain ⟨pv, rfl, hpr⟩ := hR
    obtain ⟨qa, qc, rfl, hq1, hq2⟩ := hpr.form
    simp only [maxLen] at hq2
    (repeat' (refine Wl.fieldAddr rfl rfl ?_))
    refine Wl.load1 rfl (hat.get 2 rfl) ?_
    (repeat' (first | refine Wl.moveE (by conv => { lhs; whnf }) ?_ | refine Wl.nil ?_ | refine Wl.lenS rfl ?_ | refine Qseq.normal ?_ | refine Wc.block ?_))
    refine Wc.loop (σ := Nat × Lab) (fun s => [(0, ptrV bl), (1, ptrV (bs.getD k 0)), (2, vi n), (20, .slice qa x.props.length qc), (21, vi x.props.length), (22, vi s.1)])
      (fun s w' => s.1 ≤ x.props.length ∧ KG lo s.2 w' bs (G.set k { kn with props := (x.props.take s.1).foldl setPr kn.props }) ∧ (∀ b, b < w.heap.size → s.2 b = lab b) ∧ LayC bl lab w w' ∧ Bk w' bl 82 [.slice pa pn.length pc, vi c]) (fun s => x.props.length - s.1)
      (0, lab) ⟨rfl, rfl, rfl, rfl, rfl, rfl, trivial⟩ ⟨Nat.zero_le _, ?_, fun _ _ => rfl, Chg.refl _ _, hw.bk⟩ ?_
    · dsimp only
      rw [List.take_zero, List.foldl_nil]
      have : G.set k { kn with props := kn.props } = G := by
        obtain ⟨h1, h2⟩ := List.getElem?_eq_some_iff.1 hkn
        show G.set k kn = G
        rw [← h2]; exact List.set_getElem_self h1
      rw [this]; exact hw.kg
    rintro ⟨i, lab1⟩ G1 w1 ⟨hi, kg1, hl1, c1, hb1⟩
    dsimp only at hi kg1 hl1 c1 hb1
    have hbl1 : lab1 bl = none := (hl1 bl hw.bk.lt).trans hw.bln.2
    simp only [upds]
    generalize hps : (x.props.take i).foldl setPr kn.props = ps at kg1
    have hpsl := foldl_setPr_length (x.props.take i) kn.props
    rw [hps, List.length_take] at hpsl
    have hknl := hw.pl k kn hkn
    have keepP : ∀ w', LayC bl lab w w' → Keep (fun b => b < lo) w w' := fun w' hc => hc.keep fun b _ hb e => by
      rcases e with e | e
      · have := hw.bln.1; omega
      · exact e (hw.kg.lab_none (.inr hb))
    (repeat' (first | refine Wl.moveE (by conv => { lhs; whnf }) ?_ | refine Wl.nil ?_ | refine Qseq.normal ?_ | refine Wc.seq ?_ | refine Wc.region ?_ | refine Wc.block ?_ | refine Wc.skip ?_ | refine Wc.exit ?_ | refine Qseq.exit ?_ | refine Qblk.hit ?_ | refine Qloop.exit ?_ | refine Wc.condT rfl ?_ | refine Wc.condF rfl ?_ | refine Wl.nilP rfl ?_ | refine Wl.fieldAddr rfl rfl ?_ | refine Wl.lss rfl rfl (fun _ => ?_) (fun _ => ?_)))
    · obtain ⟨p, hp⟩ := get_lt x.props (k := i) (by omega)
      refine Wl.idxAddrK hpr (keepP w1 c1) rfl rfl (by omega) hp fun b' o' cs' hl' hR' hat' => ?_
      obtain rfl : cs' = pC p := hR'
      refine Wl.loadAt hat' rfl rfl ?_
      refine Wl.alloc fun w2 b2 n2 s2 => ?_
      refine Wl.storeB (new := pC p) b2 rfl rfl rfl rfl (show (2 : Nat) ≤ 2 from Nat.le_refl 2) (goodPr.oc (fun _ => True) w p _ rfl rfl) fun w3 b3 c3 s3 => ?_
      replace b3 : Bk w3 w1.heap.size 39 (pC p) := b3
      have n13 : New w1 w3 := Chg.trans n2 c3 fun b hb e => by omega
      have kg3 := kg1.new n13
      have c03 := Chg.trans c1 (n13.any (M := fun b => b = bl ∨ lab b ≠ none)) fun _ _ e => e
      (repeat' (first | refine Wl.nil ?_ | refine Qseq.normal ?_ | refine Wc.seq ?_))
      obtain ⟨pv3, kv3, ka3⟩ := kg3.at' k { kn with props := ps } (by rw [List.getElem?_set, if_pos rfl, if_pos hk])
      obtain ⟨qv, qvc, hpve, hpc, _⟩ := ka3.pr.form
      dsimp only at hpve hpc
      subst hpve
      have kb3 : Bk w3 (bs.getD k 0) tKn [vs kn.name, .slice qv ps.length qvc, kv3] := ka3.bk
      have kp3 : OwnPr (fun x => lab1 x = some (k, 1)) w3 (.slice qv ps.length qvc) ps := ka3.pr
      refine Wc.regionT rfl (by kernel_rfl) (New w3) (Chg.drew _ _) ?_
      intro w4 n4
      (repeat' (first | refine Wt.quiet rfl (Wq.moveE (by conv => { lhs; whnf }) (Wq.nil ?_)) | refine Wt.quiet rfl (Wq.nilP rfl (Wq.nil ?_)) | refine Wt.quiet rfl (Wq.fieldAddr rfl rfl (Wq.nil ?_))))
      refine Wt.quiet rfl (Wq.load1 rfl (fun w' hw => (kb3.chg hw id).cell (o := 1) rfl) (Wq.nil ?_))
      (repeat' (refine Wt.quiet rfl (Wq.fieldAddr rfl rfl (Wq.nil ?_))))
      refine Wt.quiet rfl (Wq.load1 rfl (fun w' hw => (b3.chg hw id).cell (o := 0) rfl) (Wq.nil ?_))
      skip
      refine Wt.chain rfl (Wl.call (named_spec (name := p.1)) rfl ?_)
      rintro _ w5 ⟨nb, rfl, hnb, n5⟩
      have n35 := New.trans n4 n5
      refine Wl.nil ⟨rfl, n35, ?_⟩
      refine Wt.chain rfl (Wl.call (IndexFuncPr_spec (p := fun y => decide (y.1 = p.1)) (g := 74) (cap := #[ptrV nb]) ((kp3.new plainPr n35).rd (mono_flat pC)) (fun y w' _ hw => named1_spec (hnb.chg hw id))) rfl ?_)
      rintro _ w6 ⟨rfl, n6⟩
      have n36 := New.trans n35 n6
      refine Wl.nil ⟨rfl, n36, ?_⟩
      have b6 := b3.chg n36 id
      have kg6 := kg3.new n36
      have ka6 := ka3.chg n36 (fun _ e => e.elim)
      have c06 := Chg.trans c03 (n36.any (M := fun b => b = bl ∨ lab b ≠ none)) fun _ _ e => e
      have kb6 : Bk w6 (bs.getD k 0) tKn [vs kn.name, .slice qv ps.length qvc, kv3] := ka6.bk
      have kp6 : OwnPr (fun x => lab1 x = some (k, 1)) w6 (.slice qv ps.length qvc) ps := ka6.pr
      have hstep : (x.props.take (i + 1)).foldl setPr kn.props = setPr ps p := by rw [take_snoc hp, List.foldl_append, hps]; rfl
      generalize hat6 : idx (fun y : Pr => decide (y.1 = p.1)) ps = at6
      (repeat' (first | refine Wt.nil ?_ | refine Wt.quiet rfl (Wq.assignE (by conv => { lhs; whnf }) (Wq.nil ?_))))
      refine Qseq.normal ?_
      refine Wc.cut (fun F w' => ∃ (ps' : List Pr) (j : Nat) (v0 : List UInt8) (lab' : Lab), agrees F [(0, ptrV bl), (1, ptrV (bs.getD k 0)), (2, vi n), (8, ptrV w1.heap.size), (9, vi j), (20, .slice qa x.props.length qc), (21, vi x.props.length), (22, vi i)] ∧
        ps'[j]? = some (p.1, v0) ∧ ps'.set j p = setPr ps p ∧ KG lo lab' w' bs (G.set k { kn with props := ps' }) ∧ Bk w' w1.heap.size 39 (pC p) ∧ (∀ b, b < w.heap.size → lab' b = lab b) ∧ LayC bl lab w w' ∧ Bk w' bl 82 [.slice pa pn.length pc, vi c]) ?_ ?_
      · rcases idx_cases (fun y : Pr => decide (y.1 = p.1)) ps with ⟨e, hno⟩ | ⟨j, y0, e, hj0, hpy, hbef⟩
        · rw [← hat6, e]
          (repeat' (first | refine Wl.moveE (by conv => { lhs; whnf }) ?_ | refine Wl.nil ?_ | refine Qseq.normal ?_ | refine Wc.seq ?_ | refine Wc.region ?_ | refine Wc.condT rfl ?_ | refine Wl.nilP rfl ?_ | refine Wl.fieldAddr rfl rfl ?_ | (refine Wl.lss rfl rfl (fun _ => ?_) (fun _ => ?_) <;> (first | (exfalso; omega) | skip))))
          refine Wl.load1 rfl (kb6.cell (o := 1) rfl) ?_
          (repeat' (first | refine Wl.assignE (by conv => { lhs; whnf }) ?_ | refine Wl.nil ?_ | refine Wl.lenS rfl ?_ | refine Qseq.normal ?_))
          have hbk : ∀ w', Chg (fun b => lab1 b = some (k, 1)) w6 w' → Bk w' (bs.getD k 0) tKn [vs kn.name, .slice qv ps.length qvc, kv3] := fun w' hw => kb6.chg hw (fun e => by have := ka6.lb; rw [e] at this; cases this)
          have hbp : ∀ w', Chg (fun b => lab1 b = some (k, 1)) w6 w' → Bk w' w1.heap.size 39 (pC p) := fun w' hw => b6.chg hw (fun e => by have := kg1.lab_none (b := w1.heap.size) (.inl (Nat.le_refl _)); rw [e] at this; cases this)
          refine Wc.regionT rfl (by kernel_rfl) (fun w' => Chg (fun b => lab1 b = some (k, 1)) w6 w') (Chg.drew _ _) ?_
          intro w7 n7
          (repeat' (first | refine Wt.quiet rfl (Wq.moveE (by conv => { lhs; whnf }) (Wq.nil ?_)) | refine Wt.quiet rfl (Wq.nilP rfl (Wq.nil ?_)) | refine Wt.quiet rfl (Wq.fieldAddr rfl rfl (Wq.nil ?_))))
          refine Wt.quiet rfl (Wq.load1 rfl (fun w' hw => (hbk w' hw).cell (o := 1) rfl) (Wq.nil ?_))
          refine Wt.quiet rfl (Wq.loadAt (fun w' hw => (hbp w' hw).at) rfl rfl (Wq.nil ?_))
          refine Wt.chain rfl (Wl.buildSlice1 (R := rPr) (y := p) (Pe := No) goodPr rfl rfl rfl rfl (by omega) (by omega) fun vt w8 ot n8 s8 hobt => ?_)
          have n68 := New.trans n7 n8
          refine Wl.nil ⟨rfl, n68.any, ?_⟩
          refine Wt.chain rfl (Wl.appendAll goodPr (kp6.new plainPr n68) (ot.rd (mono_flat pC)) (fun y cs hy => hy) rfl rfl (by omega) (by simp only [maxLen, List.length_singleton]; omega) (by simp only [List.length_singleton]; omega) fun pv9 w9 o9 c9 lie _ => ?_)
          have c69 : Chg (fun b => lab1 b = some (k, 1)) w6 w9 := Chg.trans n68.any c9 (fun b _ e => (kp6.lt e).1)
          refine Wl.nil ⟨rfl, c69, ?_⟩
          (repeat' (first | refine Wt.quiet rfl (Wq.nilP rfl (Wq.nil ?_)) | refine Wt.quiet rfl (Wq.fieldAddr rfl rfl (Wq.nil ?_))))
          have h9 : pv9.oneCell' = true := by obtain ⟨_, _, rfl, _⟩ := o9.form; rfl
          refine Wt.last rfl (Wl.store1 (hbk w9 c69) rfl (show (1 : Nat) < 3 by omega) rfl h9 fun w10 b10 c10 => ?_)
          replace b10 : Bk w10 (bs.getD k 0) tKn [vs kn.name, pv9, kv3] := b10
          have kg8 := kg6.new n68
          have ka8 := ka6.chg n68 (fun _ e => e.elim)
          have cT : Chg (fun b => ∃ q, lab1 b = some (k, q)) w8 w10 := Chg.trans (c9.mono fun b _ e => ⟨1, (kp6.lt e).1⟩) c10 fun b _ e => ⟨0, by rw [e]; exact ka6.lb⟩
          have sz8 : lo ≤ w8.heap.size := by have := c06.size; have := n68.size; have := hw.sz; omega
          have hGk : (G.set k { kn with props := ps })[k]? = some { kn with props := ps } := by rw [List.getElem?_set, if_pos rfl, if_pos hk]
          have kk8 : OwnKids (fun x => lab1 x = some (k, 2)) w8 kv3 (kn.kids.map fun j => bs.getD j 0) := ka8.kd
          have kk10 := (kk8.chg (plain_one _) c9 (fun b e1 e2 => by have h1 := (kk8.lt e1).1; rw [(kp6.lt e2).1] at h1; cases h1)).chg (plain_one _) c10 (fun b e1 e2 => by have h1 := (kk8.lt e1).1; rw [e2, ka6.lb] at h1; cases h1)
          have o10 := o9.chg plainPr c10 (fun b e1 e2 => by
            rcases (o9.lt e1).1 with h1 | h1
            · rw [e2, ka6.lb] at h1; cases h1
            · have := ka8.bk.lt; omega)
          have sp : Sep pv9 kv3 := fun b e1 e2 => by
            have h1 := kk8.lt e2
            rcases (o9.lt e1).1 with h2 | h2
            · rw [h1.1] at h2; cases h2
            · omega
          obtain ⟨lab10, kg10, hl10⟩ := kg8.set (k' := { kn with props := ps ++ [p] }) sz8 hGk cT b10 o10 (kk10.mono (mono_one _) (fun _ _ e => .inl e) (fun _ _ e => e)) sp (fun j hj => kg8.kid k { kn with props := ps } hGk j hj) (kg8.nd k { kn with props := ps } hGk)
          rw [List.set_set] at kg10
          (repeat' (refine Wl.nil ?_))
          refine ⟨rfl, ps ++ [p], ps.length, p.2, lab10, ⟨rfl, rfl, rfl, rfl, rfl, rfl, rfl, rfl, trivial⟩, by simp, ?_, kg10, ?_, fun b hb => (hl10 b (by have := c06.size; have := n68.size; omega)).trans (hl1 b hb), ?_, ?_⟩
          · unfold setPr
            rw [show ps.findIdx? (fun y => decide (y.1 = p.1)) = none from List.findIdx?_eq_none_iff.2 hno]
            simp
          · have hx1 := kg1.lab_none (b := w1.heap.size) (.inl (Nat.le_refl _))
            exact ((b6.chg n68 id).chg c9 (fun e => by have := (kp6.lt e).1; rw [hx1] at this; cases this)).chg c10 (fun e => by have := ka6.lb; rw [← e, hx1] at this; cases this)
          · exact Chg.trans (Chg.trans c06 (n68.any (M := fun b => b = bl ∨ lab b ≠ none)) fun _ _ e => e) cT fun b hb ⟨q, e⟩ => by
              right; rw [← hl1 b hb, e]; simp
          · exact (((hb1.chg n13 id).chg n36 id).chg n68 id).chg cT (fun ⟨q, e⟩ => by rw [hbl1] at e; cases e)
        · rw [← hat6, e]
          (repeat' (first | refine Wl.moveE (by conv => { lhs; whnf }) ?_ | refine Wl.nil ?_ | refine Qseq.normal ?_ | refine Wc.seq ?_ | refine Wc.region ?_ | refine Wc.skip ?_ | refine Wc.condF rfl ?_ | (refine Wl.lss rfl rfl (fun _ => ?_) (fun _ => ?_) <;> (first | (exfalso; omega) | skip))))
          refine ⟨rfl, ps, j, y0.2, lab1, ⟨rfl, rfl, rfl, rfl, rfl, rfl, rfl, rfl, trivial⟩, ?_, ?_, kg6, b6, hl1, c06, (hb1.chg n13 id).chg n36 id⟩
          · have := of_decide_eq_true hpy
            rw [hj0, ← this]
          · unfold setPr
            have hfi : ps.findIdx? (fun y => decide (y.1 = p.1)) = some j := by
              rw [List.findIdx?_eq_some_iff_getElem]
              obtain ⟨hlt, rfl⟩ := List.getElem?_eq_some_iff.1 hj0
              refine ⟨hlt, hpy, fun q hq => ?_⟩
              have := hbef ps[q] (by rw [List.mem_iff_getElem?]; exact ⟨q, by rw [List.getElem?_take, if_pos hq, List.getElem?_eq_getElem]⟩)
              simp [this]
            rw [hfi]
      · rintro F8 w8 ⟨ps', j, v0, lab8, hag, hj0, hset, kg8, b8, hl8, c8, hb8⟩
        rw [← upds_of_agrees hag]
        simp only [upds]
        have hGk : (G.set k { kn with props := ps' })[k]? = some { kn with props := ps' } := by rw [List.getElem?_set, if_pos rfl, if_pos hk]
        obtain ⟨pv8, kv8, ka8⟩ := kg8.at' k { kn with props := ps' } hGk
        have kp8 : OwnPr (fun x => lab8 x = some (k, 1)) w8 pv8 ps' := ka8.pr
        have hjl : j < ps'.length := (List.getElem?_eq_some_iff.1 hj0).1
        obtain ⟨g, gc, rfl, hgb, hgl, hob⟩ := kp8.blk (by intro e; rw [e] at hjl; simp at hjl)
        have kb8 : Bk w8 (bs.getD k 0) tKn [vs kn.name, .slice (some ⟨g, 0, none⟩) ps'.length gc, kv8] := ka8.bk
        skip
        refine Wc.regionT rfl (by kernel_rfl) (New w8) (Chg.drew _ _) ?_
        intro w9 n9
        (repeat' (first | refine Wt.quiet rfl (Wq.moveE (by conv => { lhs; whnf }) (Wq.nil ?_)) | refine Wt.quiet rfl (Wq.nilP rfl (Wq.nil ?_)) | refine Wt.quiet rfl (Wq.fieldAddr rfl rfl (Wq.nil ?_))))
        refine Wt.quiet rfl (Wq.load1 rfl (fun w' hw => (kb8.chg hw id).cell (o := 1) rfl) (Wq.nil ?_))
        (repeat' (first | refine Wt.quiet rfl (Wq.moveE (by conv => { lhs; whnf }) (Wq.nil ?_)) | refine Wt.quiet rfl (Wq.fieldAddr rfl rfl (Wq.nil ?_))))
        refine Wt.quiet rfl (Wq.load1 rfl (fun w' hw => (b8.chg hw id).cell (o := 1) rfl) (Wq.nil ?_))
        refine Wt.quiet rfl (Wq.idxP rfl rfl (by omega) (by omega) (Wq.nil ?_))
        (repeat' (refine Wt.quiet rfl (Wq.fieldAddr rfl rfl (Wq.nil ?_))))
        refine Wt.last rfl (Wl.storeOwnF (f := pC) (sz := 2) (o := 1) (j := j) (p := (p.1, v0)) (q := p) (u := vs p.2) (cap := gc) (fun _ => rfl) (by omega) rfl hj0 rfl (kp8.new plainPr n9) rfl (by show Value.pointer (some ⟨g, 0 + (j : Int).toNat * 2 + 1, none⟩) = _; simp) rfl fun w10 o10 c10 => ?_)
        have kg9 := kg8.new n9
        have kk9 : OwnKids (fun x => lab8 x = some (k, 2)) w9 kv8 (kn.kids.map fun j => bs.getD j 0) := (ka8.chg n9 (fun _ e => e.elim)).kd
        have cT : Chg (fun b => ∃ q, lab8 b = some (k, q)) w9 w10 := c10.mono fun b _ e => ⟨1, (kp8.lt e).1⟩
        have kk10 := kk9.chg (plain_one _) c10 (fun b e1 e2 => by have h1 := (kk9.lt e1).1; rw [(kp8.lt e2).1] at h1; cases h1)
        have b10 := (kb8.chg n9 id).chg c10 (fun e => by have h1 := ka8.lb; rw [(kp8.lt e).1] at h1; cases h1)
        have sz9 : lo ≤ w9.heap.size := by have := c8.size; have := n9.size; have := hw.sz; omega
        rw [hset] at o10
        have sp : Sep (.slice (some ⟨g, 0, none⟩) ps'.length gc) kv8 := fun b e1 e2 => by
          have h1 := (kk9.lt e2).1
          rw [(kp8.lt e1).1] at h1; cases h1
        obtain ⟨lab10, kg10, hl10⟩ := kg9.set (k' := { kn with props := setPr ps p }) sz9 hGk cT b10 (o10.mono (mono_flat pC) (fun _ _ e => .inl e) (fun _ _ e => e)) (kk10.mono (mono_one _) (fun _ _ e => .inl e) (fun _ _ e => e)) sp (fun j hj => kg9.kid k { kn with props := ps' } hGk j hj) (kg9.nd k { kn with props := ps' } hGk)
        rw [List.set_set] at kg10
        have cA := Chg.trans c8 (n9.any (M := fun b => b = bl ∨ lab b ≠ none)) fun _ _ e => e
        (repeat' (first | refine Wl.moveE (by conv => { lhs; whnf }) ?_ | refine Wl.nil ?_ | refine Qseq.normal ?_ | refine Wc.region ?_ | refine Qblk.normal ?_ | refine Wl.add rfl rfl (by omega) (by omega) ?_))
        exact Qloop.normal (i + 1, lab10) ⟨rfl, rfl, rfl, rfl, rfl, rfl, trivial⟩ ⟨by dsimp only; omega, by dsimp only; rw [hstep]; exact kg10, fun b hb => (hl10 b (by have := cA.size; omega)).trans (hl8 b hb),
          Chg.trans cA cT fun b hb ⟨q, e⟩ => (by right; rw [← hl8 b hb, e]; simp), (hb8.chg n9 id).chg cT (fun ⟨q, e⟩ => by rw [(hl8 bl hw.bk.lt).trans hw.bln.2] at e; cases e)⟩ (by dsimp only; omega)
    · have e : i = x.props.length := by omega
      subst e
      rw [List.take_length] at hps
      subst hps
      generalize hps : x.props.foldl setPr kn.props = ps at kg1 hpsl ⊢
      have hGk : (G.set k { kn with props := ps })[k]? = some { kn with props := ps } := by rw [List.getElem?_set, if_pos rfl, if_pos hk]
      obtain ⟨pv1, kv1, ka1⟩ := kg1.at' k { kn with props := ps } hGk
      obtain ⟨qv, qvc, hpve, _, _⟩ := ka1.pr.form
      dsimp only at hpve
      subst hpve
      refine Wl.load1 rfl (ka1.bk.cell (o := 1) rfl) ?_
      (repeat' (first | refine Wl.moveE (by conv => { lhs; whnf }) ?_ | refine Wl.assignE (by conv => { lhs; whnf }) ?_ | refine Wl.nil ?_ | refine Wl.lenS rfl ?_ | refine Qseq.normal ?_ | refine Wc.seq ?_ | refine Wc.region ?_ | refine Wc.block ?_ | refine Wc.skip ?_ | refine Wc.ret ?_ | refine Qseq.ret ?_ | refine Wc.condT rfl ?_ | refine Wc.condF rfl ?_ | refine Wl.add rfl rfl (by omega) (by omega) ?_ | refine Wl.gtr rfl rfl (fun _ => ?_) (fun _ => ?_)))
      · rw [if_pos (by omega)]
        exact Qfn.ret1 rfl rfl ⟨_, rfl, rfl, c1, fun e => by cases e⟩
      · rw [if_neg (by omega)]
        have hw1 : LayW lo bl lab1 w1 bs (G.set k { kn with props := ps }) (.slice pa pn.length pc) pn c := by
          refine ⟨kg1, ?_, ⟨hw.bln.1, ?_⟩, hw.rd.keep stableNd (keepP w1 c1), by rw [List.length_set]; exact hw.gl, fun q y hy => ?_, Nat.le_trans hw.sz c1.size⟩
          · exact hb1
          · rw [hl1 bl hw.bk.lt]; exact hw.bln.2
          · rw [List.getElem?_set] at hy
            split at hy
            · simp only [hk, if_true, Option.some.injEq] at hy
              subst hy; dsimp only; omega
            · exact hw.pl q y hy
        generalize hRES : layLoop pn k n (fun j i G c => layG pn f j i G c) ((List.range pn.length).drop (n + 1)) (G.set k { kn with props := ps }) c = RES
        refine Wc.loop (σ := Nat × List Kn × Int × Lab × List Nat) (fun s => [(0, ptrV bl), (1, ptrV (bs.getD k 0)), (2, vi n), (10, vi s.1)])
          (fun s w' => s.1 ≤ pn.length ∧ n + 1 ≤ s.1 ∧ layLoop pn k n (fun j i G c => layG pn f j i G c) ((List.range pn.length).drop s.1) s.2.1 s.2.2.1 = RES ∧ k < s.2.1.length ∧ LayW lo bl s.2.2.2.1 w' (bs ++ s.2.2.2.2) s.2.1 (.slice pa pn.length pc) pn s.2.2.1 ∧ s.2.2.1 ≤ 512 ∧ (∀ b, b < w.heap.size → s.2.2.2.1 b = lab b) ∧ LayC bl lab w w') (fun s => pn.length - s.1)
          (n + 1, G.set k { kn with props := ps }, c, lab1, []) ⟨rfl, rfl, rfl, rfl, trivial⟩ ⟨by dsimp only; omega, Nat.le_refl _, hRES, by simpa using hk, by simpa using hw1, hc, hl1, c1⟩ ?_
        rintro ⟨q, Gq, cq, labq, bsq⟩ G5 w5 ⟨hq, hnq, hres, hkq, hwq, hcq, hlq, c5⟩
        dsimp only at hq hnq hres hkq hwq hcq hlq c5
        simp only [upds]
        (repeat' (first | refine Wl.moveE (by conv => { lhs; whnf }) ?_ | refine Wc.seq ?_ | refine Wc.region ?_ | refine Wl.nilP rfl ?_ | refine Wl.fieldAddr rfl rfl ?_))
        refine Wl.load1 rfl (hwq.bk.cell (o := 0) rfl) ?_
        (repeat' (first | refine Wl.moveE (by conv => { lhs; whnf }) ?_ | refine Wl.assignE (by conv => { lhs; whnf }) ?_ | refine Wl.nil ?_ | refine Wl.lenS rfl ?_ | refine Qseq.normal ?_ | refine Wc.seq ?_ | refine Wc.region ?_ | refine Wc.block ?_ | refine Wc.skip ?_ | refine Wc.exit ?_ | refine Wc.ret ?_ | refine Qseq.exit ?_ | refine Qblk.hit ?_ | refine Qloop.exit ?_ | refine Wc.condT rfl ?_ | refine Wc.condF rfl ?_ | refine Wl.nilP rfl ?_ | refine Wl.fieldAddr rfl rfl ?_ | refine Wl.lss rfl rfl (fun _ => ?_) (fun _ => ?_)))
        · obtain ⟨y, hy⟩ := get_lt pn (k := q) (by omega)
          have hyo := treeOk_nd hpn hy
          have hdr : (List.range pn.length).drop q = q :: (List.range pn.length).drop (q + 1) := drop_cons (by rw [List.getElem?_range (by omega)])
          rw [hdr] at hres
          simp only [layLoop, hy] at hres
          refine Wl.load1 rfl (hwq.bk.cell (o := 0) rfl) ?_
          (repeat' (refine Wl.moveE (by conv => { lhs; whnf }) ?_))
          refine Wl.idxAddr hwq.rd rfl rfl (by omega) hy fun b o cs hl hR hat => ?_
          obtain ⟨ypv, rfl, hypr⟩ := hR
          refine Wl.loadAt hat rfl rfl ?_
          refine Wl.alloc fun w6 b6 n6 s6 => ?_
          refine Wl.storeB (new := [vi y.parent, vs y.name, ypv]) b6 rfl rfl rfl rfl (show (3 : Nat) ≤ 3 from Nat.le_refl 3) (goodNd.oc _ w5 y _ ⟨ypv, rfl, hypr⟩ rfl) fun w7 b7 c7 s7 => ?_
          replace b7 : Bk w7 w5.heap.size 37 [vi y.parent, vs y.name, ypv] := b7
          have n57 : New w5 w7 := Chg.trans n6 c7 fun b hb e => by omega
          have hw7 := hwq.new n57
          have c07 := Chg.trans c5 (n57.any (M := fun b => b = bl ∨ lab b ≠ none)) fun _ _ e => e
          (repeat' (first | refine Wl.nil ?_ | refine Qseq.normal ?_ | refine Wc.seq ?_ | refine Wc.region ?_ | refine Wl.fieldAddr rfl rfl ?_))
          refine Wl.load1 rfl (b7.cell (o := 0) rfl) ?_
          (repeat' (first | refine Wl.moveE (by conv => { lhs; whnf }) ?_ | refine Wl.assignE (by conv => { lhs; whnf }) ?_ | refine Wl.nil ?_ | refine Qseq.normal ?_ | refine Wc.seq ?_ | refine Wc.region ?_ | refine Wc.skip ?_ | refine Wc.exit ?_ | refine Qseq.exit ?_ | refine Qblk.hit ?_ | refine Wc.condT rfl ?_ | refine Wc.condF rfl ?_ | refine Wl.nilP rfl ?_ | refine Wl.fieldAddr rfl rfl ?_ | refine Wl.add rfl rfl (by omega) (by omega) ?_ | refine Wl.neq rfl rfl (fun _ => ?_) (fun _ => ?_)))
          · rw [if_pos (by assumption)] at hres
            exact Qloop.normal (q + 1, Gq, cq, labq, bsq) ⟨rfl, rfl, rfl, rfl, trivial⟩ ⟨by dsimp only; omega, by dsimp only; omega, hres, hkq, hw7, hcq, hlq, c07⟩ (by dsimp only; omega)
          · rw [if_neg (by intro h; contradiction)] at hres
            obtain ⟨kq, hkq'⟩ := get_lt Gq hkq
            obtain ⟨pvq, kvq, kaq⟩ := hw7.kg.at' k kq hkq'
            have hbsk : (bs ++ bsq).getD k 0 = bs.getD k 0 := by
              rw [List.getD_eq_getElem?_getD, List.getElem?_append_left (by rw [hw.kg.len]; exact hk), ← List.getD_eq_getElem?_getD]
            have kbq : Bk w7 (bs.getD k 0) tKn [vs kq.name, pvq, kvq] := hbsk ▸ kaq.bk
            refine Wl.load1 rfl (kbq.cell (o := 2) rfl) ?_
            refine Wl.makeFunc (first := []) (cap := [.tmp 11]) rfl rfl ?_
            obtain ⟨pf, hpf⟩ : ∃ pf : Nat → Bool, ∀ (j : Nat) (z : Kn), Gq[j]? = some z → pf ((bs ++ bsq).getD j 0) = decide (z.name = y.name) := by
              classical
              refine ⟨fun b => decide (w7.cell? ⟨b, 0, none⟩ = some (vs y.name)), fun j z hz => ?_⟩
              obtain ⟨pz, kz, kaz⟩ := hw7.kg.at' j z hz
              show decide (w7.cell? ⟨(bs ++ bsq).getD j 0, 0, none⟩ = some (vs y.name)) = _
              rw [kaz.bk.cell (o := 0) rfl]
              by_cases h : z.name = y.name
              · rw [decide_eq_true h, decide_eq_true (by rw [h])]
              · rw [decide_eq_false h, decide_eq_false (fun e => h (vs_inj (Option.some.inj e)))]
            refine Wl.call (IndexFuncKn_spec (p := pf) (g := 71) (cap := #[ptrV w5.heap.size]) (kaq.kd.rd (mono_one _)) (fun z w' hz hn => by
              obtain ⟨j, hj, rfl⟩ := List.mem_map.1 hz
              obtain ⟨zz, hzz⟩ := get_lt Gq (hw7.kg.kid k kq hkq' j hj).2
              obtain ⟨pz, kz, kaz⟩ := hw7.kg.at' j zz hzz
              rw [hpf j zz hzz]
              exact lay1_spec (b7.chg hn id) (kaz.bk.chg hn id))) rfl ?_
            rintro _ w8 ⟨rfl, n8⟩
            have hw8 := hw7.new n8
            have c08 := Chg.trans c07 (n8.any (M := fun b => b = bl ∨ lab b ≠ none)) fun _ _ e => e
            have b8 := b7.chg n8 id
            have kbq8 := kbq.chg n8 id
            rcases kid_cases hw7.kg hkq' y.name pf hpf with ⟨e, hnone⟩ | ⟨i, j, e, hij, hsome⟩
            · rw [hnone] at hres
              rw [e]
              dsimp only at hres
              have hgl8 := hw8.gl
              obtain ⟨kp, kc, hkv, hkc1, hkc2⟩ := kaq.kd.form
              rw [List.length_map] at hkv hkc1
              subst hkv
              simp only [maxLen] at hkc2
              have hkl := hw8.kg.kids_le hkq'
              (repeat' (first | refine Wl.moveE (by conv => { lhs; whnf }) ?_ | refine Wl.assignE (by conv => { lhs; whnf }) ?_ | refine Wl.nil ?_ | refine Qseq.normal ?_ | refine Wc.seq ?_ | refine Wc.region ?_ | refine Wc.condT rfl ?_ | refine Wl.nilP rfl ?_ | refine Wl.fieldAddr rfl rfl ?_ | (refine Wl.lss rfl rfl (fun _ => ?_) (fun _ => ?_) <;> (first | (exfalso; omega) | skip))))
              refine Wl.load1 rfl (hw8.bk.cell (o := 1) rfl) ?_
              (repeat' (first | refine Wl.nilP rfl ?_ | refine Wl.fieldAddr rfl rfl ?_ | refine Wl.add rfl rfl (by omega) (by omega) ?_))
              refine Wl.store1 hw8.bk rfl (show (1 : Nat) < 2 by omega) rfl rfl fun w9 b9 c9 => ?_
              replace b9 : Bk w9 bl 82 [.slice pa pn.length pc, vi (cq + 1)] := b9
              have c09 : LayC bl lab w w9 := Chg.trans c08 c9 fun b _ e => .inl e
              (repeat' (first | refine Wl.moveE (by conv => { lhs; whnf }) ?_ | refine Wl.nil ?_ | refine Qseq.normal ?_ | refine Wc.seq ?_ | refine Wc.region ?_ | refine Wl.nilP rfl ?_ | refine Wl.fieldAddr rfl rfl ?_))
              refine Wl.load1 rfl (b9.cell (o := 1) rfl) ?_
              (repeat' (first | refine Wl.moveE (by conv => { lhs; whnf }) ?_ | refine Wl.assignE (by conv => { lhs; whnf }) ?_ | refine Wl.nil ?_ | refine Qseq.normal ?_ | refine Wc.seq ?_ | refine Wc.region ?_ | refine Wc.skip ?_ | refine Wc.ret ?_ | refine Qseq.ret ?_ | refine Qblk.ret ?_ | refine Qloop.ret ?_ | refine Wc.condT rfl ?_ | refine Wc.condF rfl ?_ | refine Wl.nilP rfl ?_ | refine Wl.fieldAddr rfl rfl ?_ | refine Wl.gtr rfl rfl (fun _ => ?_) (fun _ => ?_)))
              · rw [if_pos (by omega)] at hres
                subst hres
                exact Qfn.ret1 rfl rfl ⟨_, rfl, rfl, c09, fun e => by cases e⟩
              · rw [if_neg (by omega)] at hres
                have hnk : ∀ q', labq bl ≠ some (k, q') := fun q' e => by rw [hw8.bln.2] at e; cases e
                have ka9 := (kaq.chg n8 (fun _ e => e.elim)).chg c9 (fun b e q' => by rw [e]; exact hnk q')
                have kg9 := hw8.kg.chg c9 (fun b hb e => by rw [e]; exact hw8.bln.2)
                have kb9 : Bk w9 (bs.getD k 0) tKn [vs kq.name, pvq, .slice kp kq.kids.length kc] := hbsk ▸ ka9.bk
                have bn9 : Bk w9 w5.heap.size 37 [vi y.parent, vs y.name, ypv] := b8.chg c9 (fun e => by have := hwq.bk.lt; omega)
                refine Wl.load1 rfl (kb9.cell (o := 2) rfl) ?_
                (repeat' (first | refine Wl.assignE (by conv => { lhs; whnf }) ?_ | refine Wl.nil ?_ | refine Wl.lenS rfl ?_ | refine Qseq.normal ?_))
                have lbk : labq (bs.getD k 0) = some (k, 0) := hbsk ▸ ka9.lb
                have hbk : ∀ w', Chg (fun b => labq b = some (k, 2)) w9 w' → Bk w' (bs.getD k 0) tKn [vs kq.name, pvq, .slice kp kq.kids.length kc] := fun w' hw => kb9.chg hw (fun e => by rw [lbk] at e; cases e)
                have hx5 := hwq.kg.lab_none (b := w5.heap.size) (.inl (Nat.le_refl _))
                have hbn : ∀ w', Chg (fun b => labq b = some (k, 2)) w9 w' → Bk w' w5.heap.size 37 [vi y.parent, vs y.name, ypv] := fun w' hw => bn9.chg hw (fun e => by rw [hx5] at e; cases e)
                refine Wc.regionT rfl (by kernel_rfl) (fun w' => Chg (fun b => labq b = some (k, 2)) w9 w') (Chg.drew _ _) ?_
                intro w10 n10
                (repeat' (first | refine Wt.quiet rfl (Wq.moveE (by conv => { lhs; whnf }) (Wq.nil ?_)) | refine Wt.quiet rfl (Wq.nilP rfl (Wq.nil ?_)) | refine Wt.quiet rfl (Wq.fieldAddr rfl rfl (Wq.nil ?_))))
                refine Wt.quiet rfl (Wq.load1 rfl (fun w' hw => (hbk w' hw).cell (o := 2) rfl) (Wq.nil ?_))
                (repeat' (refine Wt.quiet rfl (Wq.fieldAddr rfl rfl (Wq.nil ?_))))
                refine Wt.quiet rfl (Wq.load1 rfl (fun w' hw => (hbn w' hw).cell (o := 1) rfl) (Wq.nil ?_))
                skip
                refine Wt.chain rfl (Wl.buildF (ps := [(0, .tmp 120)]) (parts := [(0, vs y.name)]) rfl rfl (by simp [Value.cells]) ?_)
                refine Wl.nil ⟨rfl, n10.any, ?_⟩
                refine Wt.chain rfl (Wl.box rfl fun w11 b11 n11 s11 => ?_)
                have n911 := New.trans n10 n11
                refine Wl.nil ⟨rfl, n911.any, ?_⟩
                replace b11 : Bk w11 w10.heap.size tKn [vs y.name, .slice none 0 0, .slice none 0 0] := b11
                refine Wt.chain rfl (Wl.buildSlice1 (R := one ptrV) (y := w10.heap.size) (Pe := No) (good_one _ fun _ => rfl) rfl rfl rfl rfl (by omega) (by omega) fun vt w12 ot n12 s12 hobt => ?_)
                have n912 := New.trans n911 n12
                refine Wl.nil ⟨rfl, n912.any, ?_⟩
                have ka12 := ka9.chg n912 (fun _ e => e.elim)
                have kk12 : OwnKids (fun x => labq x = some (k, 2)) w12 (.slice kp kq.kids.length kc) (kq.kids.map fun j => (bs ++ bsq).getD j 0) := ka12.kd
                refine Wt.chain rfl (Wl.appendAll (good_one _ fun _ => rfl) kk12 (ot.rd (mono_one _)) (fun y cs hy => hy) rfl rfl (by omega) (by simp only [maxLen, List.length_singleton, List.length_map]; omega) (by simp only [List.length_singleton, List.length_map]; omega) fun kv13 w13 o13 c13 lie _ => ?_)
                have c913 : Chg (fun b => labq b = some (k, 2)) w9 w13 := Chg.trans n912.any c13 (fun b _ e => (kk12.lt e).1)
                refine Wl.nil ⟨rfl, c913, ?_⟩
                (repeat' (first | refine Wt.quiet rfl (Wq.nilP rfl (Wq.nil ?_)) | refine Wt.quiet rfl (Wq.fieldAddr rfl rfl (Wq.nil ?_))))
                have h13 : kv13.oneCell' = true := by obtain ⟨_, _, rfl, _⟩ := o13.form; rfl
                refine Wt.last rfl (Wl.store1 (hbk w13 c913) rfl (show (2 : Nat) < 3 by omega) rfl h13 fun w14 b14 c14 => ?_)
                replace b14 : Bk w14 (bs.getD k 0) tKn [vs kq.name, pvq, kv13] := b14
                have kg10 := kg9.new n10
                have lo10 : lo ≤ w10.heap.size := by have := c09.size; have := n10.size; have := hw.sz; omega
                obtain ⟨lab12, kg12, hl12⟩ := kg10.push (name := y.name) (props := []) (pv := .slice none 0 0) lo10 (New.trans n11 n12) (Nat.le_refl _) (b11.chg n12 id) OwnS.nil
                have hbl8 := hw8.bk.lt
                have s9 := c9.size
                have s10 := n10.size
                have hlenq := hwq.kg.len
                have hGk : (Gq ++ [(⟨y.name, [], []⟩ : Kn)])[k]? = some kq := by rw [List.getElem?_append_left hkq]; exact hkq'
                have hgetk : (bs ++ bsq ++ [w10.heap.size]).getD k 0 = bs.getD k 0 := by
                  rw [List.getD_eq_getElem?_getD, List.getElem?_append_left (by omega), ← List.getD_eq_getElem?_getD, hbsk]
                have hgetn : (bs ++ bsq ++ [w10.heap.size]).getD Gq.length 0 = w10.heap.size := by
                  rw [List.getD_eq_getElem?_getD, List.getElem?_append_right (by omega), hlenq, Nat.sub_self]; rfl
                have hold12 : ∀ b q', labq b = some (k, q') → lab12 b = some (k, q') := fun b q' e => (hl12 b (by have := (kg9.low b _ e).2.1; omega)).trans e
                have lo12 : lo ≤ w12.heap.size := by have := n11.size; have := n12.size; omega
                have cT : Chg (fun b => ∃ q, lab12 b = some (k, q)) w12 w14 := Chg.trans (c13.mono fun b _ e => ⟨2, hold12 b 2 (kk12.lt e).1⟩) c14 fun b _ e => ⟨0, by rw [e]; exact hold12 _ 0 lbk⟩
                have o14 := o13.chg (plain_one _) c14 (fun b e1 e2 => by
                  rcases (o13.lt e1).1 with h1 | h1
                  · rw [e2, lbk] at h1; cases h1
                  · have := kb9.lt; have := n11.size; have := n12.size; omega)
                have kp12 : OwnPr (fun x => labq x = some (k, 1)) w12 pvq kq.props := ka12.pr
                have kp14 := (kp12.chg plainPr c13 (fun b e1 e2 => by have h1 := (kp12.lt e1).1; rw [(kk12.lt e2).1] at h1; cases h1)).chg plainPr c14 (fun b e1 e2 => by have h1 := (kp12.lt e1).1; rw [e2, lbk] at h1; cases h1)
                have sp : Sep pvq kv13 := fun b e1 e2 => by
                  have h1 := kp12.lt e1
                  rcases (o13.lt e2).1 with h2 | h2
                  · rw [h1.1] at h2; cases h2
                  · omega
                have hkids : (kq.kids ++ [Gq.length]).map (fun j => (bs ++ bsq ++ [w10.heap.size]).getD j 0) = kq.kids.map (fun j => (bs ++ bsq).getD j 0) ++ [w10.heap.size] := by
                  rw [List.map_append, List.map_singleton, hgetn]
                  congr 1
                  apply List.map_congr_left
                  intro j hj
                  have := (hw7.kg.kid k kq hkq' j hj).2
                  rw [List.getD_eq_getElem?_getD, List.getElem?_append_left (by omega), ← List.getD_eq_getElem?_getD]
                obtain ⟨lab14, kg14, hl14⟩ := kg12.set (i := k) (k' := { kq with kids := kq.kids ++ [Gq.length] }) (pv' := pvq) (kv' := kv13) lo12 hGk cT (by rw [hgetk]; exact b14) (kp14.mono (mono_flat pC) (fun b _ e => .inl (hold12 b 1 e)) (fun _ _ e => e)) (by
                  dsimp only
                  rw [hkids]
                  exact o14.mono (mono_one _) (fun b _ e => e.imp (hold12 b 2) id) (fun _ _ e => e)) sp (fun j hj => by
                  simp only [List.mem_append, List.mem_singleton, List.length_append, List.length_singleton] at hj ⊢
                  rcases hj with hj | rfl
                  · have := hw7.kg.kid k kq hkq' j hj; omega
                  · omega) (by
                  rw [List.nodup_append]
                  refine ⟨hw7.kg.nd k kq hkq', by simp, fun a ha b hb e => ?_⟩
                  simp at hb
                  have := (hw7.kg.kid k kq hkq' a ha).2
                  omega)
                have hadd : addKid (Gq ++ [⟨y.name, [], []⟩]) k Gq.length = (Gq ++ [(⟨y.name, [], []⟩ : Kn)]).set k { kq with kids := kq.kids ++ [Gq.length] } := by
                  unfold addKid; rw [hGk]
                rw [← hadd] at kg14
                have c1014 : LayC bl labq w9 w14 := Chg.trans (c913.mono fun b _ e => .inr (by rw [e]; simp)) c14 fun b _ e => .inr (by rw [e, lbk]; simp)
                have c014 : LayC bl lab w w14 := Chg.trans c09 c1014 fun b hb e => e.imp id fun e => by rw [← hlq b hb]; exact e
                have hl914 : ∀ b, b < w9.heap.size → lab14 b = labq b := fun b hb => (hl14 b (by have := n11.size; have := n12.size; omega)).trans (hl12 b (by omega))
                have hw14 : LayW lo bl lab14 w14 (bs ++ (bsq ++ [w10.heap.size])) (addKid (Gq ++ [⟨y.name, [], []⟩]) k Gq.length) (.slice pa pn.length pc) pn (cq + 1) := by
                  refine ⟨by rw [← List.append_assoc]; exact kg14, ?_, ⟨hw.bln.1, ?_⟩, hw.rd.keep stableNd (keepP w14 c014), ?_, fun i' y' hy' => ?_, Nat.le_trans hw.sz c014.size⟩
                  · exact (b9.chg c913 (fun e => hnk 2 e)).chg c14 (fun e => by rw [← e] at lbk; exact hnk 0 lbk)
                  · rw [hl914 bl (by omega)]; exact hw8.bln.2
                  · rw [addKid_length]; simp only [List.length_append, List.length_singleton]; omega
                  · rw [hadd, List.getElem?_set] at hy'
                    split at hy'
                    · split at hy'
                      · simp only [Option.some.injEq] at hy'
                        subst hy'; exact hw7.pl k kq hkq'
                      · cases hy'
                    · rw [List.getElem?_append] at hy'
                      split at hy'
                      · exact hw7.pl i' y' hy'
                      · rw [List.getElem?_singleton] at hy'
                        split at hy'
                        · cases hy'; simp
                        · cases hy'
                have hlG : (addKid (Gq ++ [(⟨y.name, [], []⟩ : Kn)]) k Gq.length).length = Gq.length + 1 := by rw [addKid_length]; simp
                obtain ⟨kp2, kc2, hkv2, hkc3, hkc4⟩ := o14.form
                simp only [List.length_append, List.length_map, List.length_singleton] at hkv2 hkc3
                subst hkv2
                (repeat' (first | refine Wl.moveE (by conv => { lhs; whnf }) ?_ | refine Wl.nil ?_ | refine Qseq.normal ?_ | refine Wc.seq ?_ | refine Wc.region ?_ | refine Wl.nilP rfl ?_ | refine Wl.fieldAddr rfl rfl ?_))
                refine Wl.load1 rfl (b14.cell (o := 2) rfl) ?_
                (repeat' (refine Wl.moveE (by conv => { lhs; whnf }) ?_))
                refine Wl.idxAddrV (o14.rd (mono_one _)) rfl rfl (by omega) (y := w10.heap.size) (by
                  rw [Int.toNat_natCast, List.getElem?_append_right (by simp), List.length_map, Nat.sub_self]; rfl) fun b2 o2 hc2 => ?_
                refine Wl.load1 rfl hc2 ?_
                (repeat' (refine Wl.moveE (by conv => { lhs; whnf }) ?_))
                have hih := ih Gq.length q _ (cq + 1) w14 (bs ++ (bsq ++ [w10.heap.size])) lab14 (by omega) (by omega) (by omega) (by omega) hw14
                rw [← List.append_assoc, hgetn] at hih
                refine Wl.call hih rfl ?_
                rintro _ w15 ⟨rfl, c15, hok⟩
                have c015 : LayC bl lab w w15 := Chg.trans c014 c15 fun b hb e => e.imp id fun e => by rw [← hlq b hb, ← hl914 b (by have := c09.size; omega)]; exact e
                generalize layG pn f Gq.length q (addKid (Gq ++ [⟨y.name, [], []⟩]) k Gq.length) (cq + 1) = R at hres hok
                obtain ⟨ok, G', c'⟩ := R
                cases ok with
                | false =>
                  dsimp only at hres
                  subst hres
                  (repeat' (first | refine Wl.assignE (by conv => { lhs; whnf }) ?_ | refine Wl.nil ?_ | refine Wl.notB rfl ?_ | refine Qseq.normal ?_ | refine Wc.seq ?_ | refine Wc.region ?_ | refine Wc.ret ?_ | refine Qseq.ret ?_ | refine Qblk.ret ?_ | refine Qloop.ret ?_ | refine Wc.condT rfl ?_))
                  exact Qfn.ret1 rfl rfl ⟨_, rfl, rfl, c015, fun e => by cases e⟩
                | true =>
                  dsimp only at hres hok
                  obtain ⟨lab', bs', hw15, hc15, hl15⟩ := hok rfl
                  have hlen15 := hw15.kg.len
                  simp only [List.length_append, List.length_singleton] at hlen15
                  rw [List.length_append] at hlenq
                  (repeat' (first | refine Wl.moveE (by conv => { lhs; whnf }) ?_ | refine Wl.assignE (by conv => { lhs; whnf }) ?_ | refine Wl.nil ?_ | refine Wl.notB rfl ?_ | refine Qseq.normal ?_ | refine Wc.region ?_ | refine Wc.skip ?_ | refine Qblk.normal ?_ | refine Wc.condF rfl ?_ | refine Wl.add rfl rfl (by omega) (by omega) ?_))
                  exact Qloop.normal (q + 1, G', c', lab', bsq ++ [w10.heap.size] ++ bs') ⟨rfl, rfl, rfl, rfl, trivial⟩ ⟨by dsimp only; omega, by dsimp only; omega, hres, by dsimp only; omega, by dsimp only; simpa only [List.append_assoc] using hw15, hc15, fun b hb => (hl15 b (by have := c014.size; omega)).trans ((hl914 b (by have := c09.size; omega)).trans (hlq b hb)), c015⟩ (by dsimp only; omega)
            · rw [hsome] at hres
              rw [e]
              dsimp only at hres
              (repeat' (first | refine Wl.moveE (by conv => { lhs; whnf }) ?_ | refine Wl.assignE (by conv => { lhs; whnf }) ?_ | refine Wl.nil ?_ | refine Qseq.normal ?_ | refine Wc.seq ?_ | refine Wc.region ?_ | refine Wc.skip ?_ | refine Wc.condF rfl ?_ | refine Wl.nilP rfl ?_ | refine Wl.fieldAddr rfl rfl ?_ | (refine Wl.lss rfl rfl (fun _ => ?_) (fun _ => ?_) <;> (first | (exfalso; omega) | skip))))
              refine Wl.load1 rfl (kbq8.cell (o := 2) rfl) ?_
              have hjk := hw7.kg.kid k kq hkq' j (List.mem_of_getElem? hij)
              have hil : i < kq.kids.length := (List.getElem?_eq_some_iff.1 hij).1
              (repeat' (refine Wl.moveE (by conv => { lhs; whnf }) ?_))
              refine Wl.idxAddrV ((kaq.kd.new (plain_one _) n8).rd (mono_one _)) rfl rfl (by omega) (y := (bs ++ bsq).getD j 0) (by rw [List.getElem?_map]; show Option.map _ kq.kids[i]? = _; rw [hij]; rfl) fun b2 o2 hc2 => ?_
              refine Wl.load1 rfl hc2 ?_
              (repeat' (refine Wl.moveE (by conv => { lhs; whnf }) ?_))
              refine Wl.call (ih j q Gq cq w8 (bs ++ bsq) labq hjk.2 (by omega) (by omega) hcq hw8) rfl ?_
              rintro _ w9 ⟨rfl, c9, hok⟩
              have c09 : LayC bl lab w w9 := Chg.trans c08 c9 fun b hb e => e.imp id fun e => by rw [← hlq b hb]; exact e
              generalize layG pn f j q Gq cq = R at hres hok
              obtain ⟨ok, G', c'⟩ := R
              cases ok with
              | false =>
                dsimp only at hres
                subst hres
                (repeat' (first | refine Wl.assignE (by conv => { lhs; whnf }) ?_ | refine Wl.nil ?_ | refine Wl.notB rfl ?_ | refine Qseq.normal ?_ | refine Wc.seq ?_ | refine Wc.region ?_ | refine Wc.ret ?_ | refine Qseq.ret ?_ | refine Qblk.ret ?_ | refine Qloop.ret ?_ | refine Wc.condT rfl ?_))
                exact Qfn.ret1 rfl rfl ⟨_, rfl, rfl, c09, fun e => by cases e⟩
              | true =>
                dsimp only at hres hok
                obtain ⟨lab', bs', hw9, hc9, hl9⟩ := hok rfl
                have hlen9 := hw9.kg.len
                have hlenq := hwq.kg.len
                rw [List.length_append] at hlen9
                (repeat' (first | refine Wl.moveE (by conv => { lhs; whnf }) ?_ | refine Wl.assignE (by conv => { lhs; whnf }) ?_ | refine Wl.nil ?_ | refine Wl.notB rfl ?_ | refine Qseq.normal ?_ | refine Wc.region ?_ | refine Wc.skip ?_ | refine Qblk.normal ?_ | refine Wc.condF rfl ?_ | refine Wl.add rfl rfl (by omega) (by omega) ?_))
                exact Qloop.normal (q + 1, G', c', lab', bsq ++ bs') ⟨rfl, rfl, rfl, rfl, trivial⟩ ⟨by dsimp only; omega, by dsimp only; omega, hres, by dsimp only; omega, by dsimp only; rw [← List.append_assoc]; exact hw9, hc9, fun b hb => (hl9 b (by have := c08.size; omega)).trans (hlq b hb), c09⟩ (by dsimp only; omega)
        · have e : q = pn.length := by omega
          subst e
          rw [List.drop_eq_nil_of_le (by simp)] at hres
          simp only [layLoop] at hres
          subst hres
          exact Qfn.ret1 rfl rfl ⟨_, rfl, rfl, c5, fun _ => ⟨labq, bsq, hwq, hcq, hlq⟩⟩
end Go.Proofs.YtjpebmgllfiloaaDoor
