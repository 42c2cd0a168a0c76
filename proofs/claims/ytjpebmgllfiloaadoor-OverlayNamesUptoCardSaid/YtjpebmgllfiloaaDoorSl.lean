/-
  The walk of Lay of a stack.
-/
import Derived.Test.YtjpebmgllfiloaaDoorSg
import Derived.Test.YtjpebmgllfiloaaDoorSf
import Derived.Test.YtjpebmgllfiloaaDoorLey
namespace Go.Proofs.YtjpebmgllfiloaaDoor
open Go Wk
open Go.RowKit (Below)
attribute [local irreducible] Go.Calls

def stkLay (S : Stk) (p : Pc) : Stk × Int × Int :=
  if S.rows.length = 16 then (S, 0, 3)
  else if (layM (stkTop S S.rows.length) p).2 ≠ 0 then (S, 0, (layM (stkTop S S.rows.length) p).2)
  else (⟨S.base, S.rows ++ [⟨S.laid + 1, p, (layM (stkTop S S.rows.length) p).1⟩], S.laid + 1⟩, S.laid + 1, 0)
theorem Wl.buildG {P : Program} {n : Nat} {ds : List Deferred} {Q : Po} {F : Fr} {w : World} {ops rest : List Oper} {d : Nat} {ty : TypeId} {pos : String} {aft : Array Edge} {t : TypeId} {ps : List (Nat × Operand)} {parts : List (Nat × Value)} {u : Value}
    (hps : ps.map (fun p => (p.1, ev n F p.2)) = parts) (hr : (Instr.build t parts.toArray).run P w = .ok u w) (c : Wl P n ds Q ops rest (upd F d u) w) : Wl P n ds Q ops (⟨some d, .build t ps.toArray, ty, pos, aft, none⟩ :: rest) F w := by
  refine Wl.val ?_ c
  subst hps
  simp only [execOp, List.map_toArray, Sem.run_bind]
  rw [hr]; rfl
set_option maxHeartbeats 4000000 in
set_option maxRecDepth 4000 in
theorem LayS_spec {lo : Nat} {lab : SLab} {w : World} {bl : Nat} {S : Stk} {bv rv : Value} (h : StkAt lo lab w bl S bv rv) (hlo : lo ≤ w.heap.size) (wf : WfS S) {Pp : Nat → Prop} {nv dv : Value} {p : Pc} (hn : RdS rNd 3 Pp w nv p.nodes) (hd : RdS (one vs) 1 Pp w dv p.drop) (hs : p.target.length ≤ 2000000) (hPp : ∀ b, Pp b → lab b = none) :
    Calls Tryd.prog 29 #[ptrV bl, .agg #[vs p.target, nv, dv]] w (Ret fun r w' => r = .tuple #[vi (stkLay S p).2.1, vi (stkLay S p).2.2] ∧ (∃ lab' bv' rv', StkAt lo lab' w' bl (stkLay S p).1 bv' rv' ∧ ∀ b, b < w.heap.size → lab' b = lab b) ∧ Chg (fun b => lab b = some true) w w') := by
  obtain ⟨ra, rc, rfl, hrc1, hrc2⟩ := h.rows.form
  obtain ⟨na, nc, rfl, _, _⟩ := hn.form
  obtain ⟨da, dc, rfl, _, _⟩ := hd.form
  simp only [maxLen] at hrc2
  refine calls_of_Wc Tryd.func29 rfl Tryd.ntmps29 rfl ?_
  (repeat' (first | refine Wc.seq ?_ | refine Wc.region ?_))
  refine Wl.box rfl fun w1 b1 n1 s1 => ?_
  replace b1 : Bk w1 w.heap.size 25 [vs p.target, .slice na p.nodes.length nc, .slice da p.drop.length dc] := b1
  have h1 := h.new n1
  (repeat' (first | refine Wl.moveE (by conv => { lhs; whnf }) ?_ | refine Wl.assignE (by conv => { lhs; whnf }) ?_ | refine Wl.nil ?_ | refine Qseq.normal ?_ | refine Wc.seq ?_ | refine Wc.region ?_ | refine Wc.block ?_))
  refine Wl.peqNil rfl rfl ?_
  (repeat' (first | refine Wl.moveE (by conv => { lhs; whnf }) ?_ | refine Wl.assignE (by conv => { lhs; whnf }) ?_ | refine Wl.nil ?_ | refine Qseq.normal ?_ | refine Wc.seq ?_ | refine Wc.region ?_ | refine Wc.condF rfl ?_ | refine Wl.nilP rfl ?_ | refine Wl.fieldAddr rfl rfl ?_))
  refine Wl.load1 rfl (h1.bk.cell (o := 1) rfl) ?_
  unfold stkLay
  by_cases h16 : S.rows.length = 16
  · rw [if_pos h16]
    (repeat' (first | refine Wl.assignE (by conv => { lhs; whnf }) ?_ | refine Wl.nil ?_ | refine Wl.lenS rfl ?_ | refine Qseq.normal ?_ | refine Wc.seq ?_ | refine Wc.region ?_ | refine Wc.ret ?_ | refine Qseq.ret ?_ | refine Qblk.ret ?_ | refine Wc.condT rfl ?_ | (refine Wl.eql rfl rfl (fun _ => ?_) (fun _ => ?_) <;> (first | (exfalso; omega) | skip))))
    exact Qfn.ret2 rfl rfl rfl ⟨_, rfl, rfl, ⟨lab, _, _, h1, fun _ _ => rfl⟩, n1.any⟩
  · rw [if_neg h16]
    (repeat' (first | refine Wl.assignE (by conv => { lhs; whnf }) ?_ | refine Wl.nil ?_ | refine Wl.lenS rfl ?_ | refine Qseq.normal ?_ | refine Wc.seq ?_ | refine Wc.skip ?_ | refine Qblk.normal ?_ | refine Wc.condF rfl ?_ | (refine Wl.eql rfl rfl (fun _ => ?_) (fun _ => ?_) <;> (first | (exfalso; omega) | skip))))
    refine Wc.regionT rfl (by kernel_rfl) (New w1) (Chg.drew _ _) ?_
    intro w2 n2
    have hC2 := n2
    (repeat' (first | refine Wt.quiet rfl (Wq.moveE (by conv => { lhs; whnf }) (Wq.nil ?_)) | refine Wt.quiet rfl (Wq.nilP rfl (Wq.nil ?_)) | refine Wt.quiet rfl (Wq.fieldAddr rfl rfl (Wq.nil ?_))))
    refine Wt.quiet rfl (Wq.load1 rfl (fun w' hw => (h1.bk.chg hw id).cell (o := 1) rfl) (Wq.nil ?_))
    (repeat' (refine Wt.quiet rfl (Wq.lenS rfl (Wq.nil ?_))))
    refine Wt.chain rfl (Wl.call (top_spec (h1.new n2) (Nat.le_refl _)) rfl ?_)
    rintro tv w3 ⟨rt, n3⟩
    replace n3 := New.trans n2 n3
    refine Wl.nil ⟨rfl, n3, ?_⟩
    skip
    refine Wt.quiet rfl (Wq.loadAt (fun w' hw => (b1.chg hw id).at) rfl rfl (Wq.nil ?_))
    have n03 := New.trans n1 n3
    refine Wt.chain rfl (Wl.call (Lay_spec (Pb := fun _ => True) (rt.mono monoNd fun _ _ _ => trivial) ((hn.keep stableNd n03.keep).mono monoNd fun _ _ _ => trivial) ((hd.keep (stable_one _) n03.keep).mono (mono_one _) fun _ _ _ => trivial) hs) rfl ?_)
    rintro _ w4 ⟨uv, rfl, n4, labu, pvs, to4⟩
    have n14 := New.trans n3 n4
    refine Wl.nil ⟨rfl, n14, ?_⟩
    have s3 := n03.size
    have s13' := n3.size
    have s14' := n14.size
    clear hC2 n2
    have htop := stkTop_ok wf (Nat.le_refl S.rows.length)
    have hlf : (layM (stkTop S S.rows.length) p).2 = 0 → LayF (stkTop S S.rows.length) (layM (stkTop S S.rows.length) p).1 p := fun e => layF (Prod.ext rfl e)
    have hpk : (layM (stkTop S S.rows.length) p).2 = 0 → pieceOk p = true := fun e => by
      obtain ⟨_, _, _, _, _, L⟩ := laid_of (t := stkTop S S.rows.length) (u := (layM (stkTop S S.rows.length) p).1) (p := p) (Prod.ext rfl e)
      exact L.pk
    generalize layM (stkTop S S.rows.length) p = LM at to4 hlf hpk ⊢
    obtain ⟨u, e⟩ := LM
    dsimp only at to4 hlf hpk ⊢
    have h4 := h1.new n14
    have b4 := b1.chg n14 id
    have n04 := New.trans n1 n14
    by_cases he : e = 0
    rotate_left
    · rw [if_pos he]
      (repeat' (first | refine Wt.nil ?_ | refine Wt.quiet rfl (Wq.moveE (by conv => { lhs; whnf }) (Wq.nil ?_)) | refine Wt.quiet rfl (Wq.assignE (by conv => { lhs; whnf }) (Wq.nil ?_)) | refine Wt.quiet rfl (Wq.extract rfl rfl (Wq.nil ?_))))
      (repeat' (first | refine Wl.moveE (by conv => { lhs; whnf }) ?_ | refine Wl.assignE (by conv => { lhs; whnf }) ?_ | refine Wl.nil ?_ | refine Qseq.normal ?_ | refine Wc.seq ?_ | refine Wc.region ?_ | refine Wc.ret ?_ | refine Qseq.ret ?_ | refine Wc.condT rfl ?_ | (refine Wl.neq rfl rfl (fun _ => ?_) (fun _ => ?_) <;> (first | (exfalso; omega) | skip))))
      exact Qfn.ret2 rfl rfl rfl ⟨_, rfl, rfl, ⟨lab, _, _, h4, fun _ _ => rfl⟩, n04.any⟩
    · subst he
      rw [if_neg (by simp)]
      have FU := hlf rfl
      have hpo := hpk rfl
      have ru := to4.rd
      obtain ⟨ua, uc, rfl, huc1, huc2⟩ := ru.form
      have hnl := tree_lens FU.tn
      have hdl : p.drop.length ≤ 2000000 := by
        unfold pieceOk at hpo
        simp only [Bool.and_eq_true, decide_eq_true_eq] at hpo
        omega
      have hlaid := wf.laid
      (repeat' (first | refine Wt.nil ?_ | refine Wt.quiet rfl (Wq.moveE (by conv => { lhs; whnf }) (Wq.nil ?_)) | refine Wt.quiet rfl (Wq.assignE (by conv => { lhs; whnf }) (Wq.nil ?_)) | refine Wt.quiet rfl (Wq.extract rfl rfl (Wq.nil ?_))))
      (repeat' (first | refine Wl.moveE (by conv => { lhs; whnf }) ?_ | refine Wl.nil ?_ | refine Qseq.normal ?_ | refine Wc.seq ?_ | refine Wc.region ?_ | refine Wc.skip ?_ | refine Wc.condF rfl ?_ | refine Wl.nilP rfl ?_ | refine Wl.fieldAddr rfl rfl ?_ | (refine Wl.neq rfl rfl (fun _ => ?_) (fun _ => ?_) <;> (first | (exfalso; omega) | skip))))
      refine Wl.load1 rfl (h4.bk.cell (o := 2) rfl) ?_
      (repeat' (first | refine Wl.nilP rfl ?_ | refine Wl.fieldAddr rfl rfl ?_ | refine Wl.add rfl rfl (by omega) (by omega) ?_))
      refine Wl.store1 h4.bk rfl (show (2 : Nat) < 3 by omega) rfl rfl fun w5 k5 c5 => ?_
      replace k5 : Bk w5 bl tStk [bv, .slice ra S.rows.length rc, vi (S.laid + 1)] := k5
      have hblw : bl < w.heap.size := h.bk.lt
      have b5 : Bk w5 w.heap.size 25 [vs p.target, .slice na p.nodes.length nc, .slice da p.drop.length dc] := b4.chg c5 (fun e => by omega)
      have s4 := n04.size
      have s5 := c5.size
      have K : ∀ b, b < w.heap.size → b = bl → lab b = some true := fun b _ e => e ▸ h.lb
      have c05 : Chg (fun b => lab b = some true) w w5 := Chg.trans n04.any c5 (fun b hb e => K b hb e)
      have base5 : RdS rNd 3 (fun b => lab b = some false) w5 bv S.base := h4.base.keep stableNd (c5.keep fun b _ hb e => by rw [e, h.lb] at hb; cases hb)
      have rows5 : OwnS rRow tRow 5 (fun b => lab b = some true ∧ b ≠ bl) (fun b => lab b = some false) w5 (.slice ra S.rows.length rc) S.rows := h4.rows.keep stableRow (c5.keep fun b _ hb e => hb.2 e) (c5.keep fun b _ hb e => by rw [e, h.lb] at hb; cases hb)
      have lowb : ∀ b c, lab b = some c → b < w.heap.size := fun b c e => (h.low b c e).2
      have c5p : Keep Pp w4 w5 := c5.keep fun b _ hb e => by have h1 := hPp b hb; rw [e, h.lb] at h1; cases h1
      have rn5 := (hn.keep stableNd n04.keep).keep stableNd c5p
      have rd5 := (hd.keep (stable_one _) n04.keep).keep (stable_one _) c5p
      have ru5 : RdS rNd 3 (fun b => w3.heap.size ≤ b) w5 (.slice ua u.length uc) u := ru.keep stableNd (c5.keep fun b _ hb e => by omega)
      clear c5p
      (repeat' (first | refine Wl.nil ?_ | refine Qseq.normal ?_ | refine Wc.seq ?_))
      refine Wc.regionU rfl (by kernel_rfl) (fun k w' => Chg (fun b => 7 ≤ k ∧ b = w.heap.size) w5 w') (fun k => Chg.drew _ _) ?_
      intro w6 n6
      (repeat' (refine Wu.quiet rfl (Wq.fieldAddr rfl rfl (Wq.nil ?_))))
      refine Wu.quiet rfl (Wq.load1 rfl (fun w' hw => (b5.chg hw (by omega)).cell (o := 1) rfl) (Wq.nil ?_))
      refine Wu.chain rfl (Wl.call (twin_spec (rn5.keep stableNd n6.keep) hnl.1 hnl.2) rfl ?_)
      rintro tw w7 ⟨lab7, pvs7, to7, n7⟩
      have n57 := New.trans n6 n7
      refine Wl.nil ⟨rfl, fun j _ => n57.any, ?_⟩
      (repeat' (refine Wu.quiet rfl (Wq.fieldAddr rfl rfl (Wq.nil ?_))))
      refine Wu.quiet rfl (Wq.load1 rfl (fun w' hw => (b5.chg hw (by omega)).cell (o := 2) rfl) (Wq.nil ?_))
      refine Wu.chain rfl (Wl.call (CloneStr_spec (rd5.keep (stable_one _) n57.keep) hdl) rfl ?_)
      rintro dw w8 ⟨od8, n8⟩
      have n58 := New.trans n57 n8
      refine Wl.nil ⟨rfl, fun j _ => n58.any, ?_⟩
      (repeat' (refine Wu.quiet rfl (Wq.fieldAddr rfl rfl (Wq.nil ?_))))
      have rt7 := to7.rd
      have rd8 := od8.rd (mono_one _)
      obtain ⟨wa, wc, rfl, _, _⟩ := rt7.form
      obtain ⟨ea, ec, rfl, _, _⟩ := rd8.form
      refine Wu.chain rfl (Wl.store1 (b5.chg n58 id) rfl (show (1 : Nat) < 3 by omega) rfl rfl fun w9 b9 c9 => ?_)
      replace b9 : Bk w9 w.heap.size 25 [vs p.target, .slice wa p.nodes.length wc, .slice da p.drop.length dc] := b9
      refine Wl.nil ⟨rfl, fun j hj => Chg.trans n58.any c9 (fun b _ e => ⟨bd_ge (c := 7) (by kernel_rfl) (by omega) hj, e⟩), ?_⟩
      (repeat' (refine Wu.quiet rfl (Wq.fieldAddr rfl rfl (Wq.nil ?_))))
      refine Wu.last rfl (Wl.store1 b9 rfl (show (2 : Nat) < 3 by omega) rfl rfl fun w10 b10 c10 => ?_)
      replace b10 : Bk w10 w.heap.size 25 [vs p.target, .slice wa p.nodes.length wc, .slice ea p.drop.length ec] := b10
      have c510 : Chg (fun b => b = w.heap.size) w5 w10 := Chg.trans (Chg.trans n58.any c9 fun _ _ e => e) c10 fun _ _ e => e
      have s6 := n6.size
      have s7 := n7.size
      have s8 := n8.size
      have s9 := c9.size
      have s10 := c10.size
      have hlw : ∀ b c, lab b = some c → ¬ b = w.heap.size := fun b c e e' => by have := lowb b c e; omega
      have k10 : Bk w10 bl tStk [bv, .slice ra S.rows.length rc, vi (S.laid + 1)] := k5.chg c510 (hlw bl true h.lb)
      have rows10 := rows5.keep stableRow (c510.keep fun b _ hb e => hlw b true hb.1 e) (c510.keep fun b _ hb e => hlw b false hb e)
      have base10 := base5.keep stableNd (c510.keep fun b _ hb e => hlw b false hb e)
      have c8910 : Chg (fun b => b = w.heap.size) w8 w10 := Chg.trans c9 c10 fun _ _ e => e
      have nw10 : RdS rNd 3 (fun b => w.heap.size < b ∧ b < w10.heap.size) w10 (.slice wa p.nodes.length wc) p.nodes :=
        ((rt7.mono monoNd (Pb' := fun b => w.heap.size < b ∧ b < w10.heap.size) fun b hb e => by omega).keep stableNd n8.keep).keep stableNd (c8910.keep fun b _ hb e => by omega)
      have dw10 : RdS (one vs) 1 (fun b => w.heap.size < b ∧ b < w10.heap.size) w10 (.slice ea p.drop.length ec) p.drop :=
        (rd8.mono (mono_one _) (Pb' := fun b => w.heap.size < b ∧ b < w10.heap.size) fun b hb e => by rcases e with e | e; omega; exact e.elim).keep (stable_one _) (c8910.keep fun b _ hb e => by omega)
      have uw10 : RdS rNd 3 (fun b => w.heap.size < b ∧ b < w10.heap.size) w10 (.slice ua u.length uc) u :=
        (ru5.mono monoNd (Pb' := fun b => w.heap.size < b ∧ b < w10.heap.size) fun b hb e => by omega).keep stableNd (c510.keep fun b _ hb e => by omega)
      clear rt7 rd8 ru5 rn5 rd5 to7 od8 c8910 c9 c10 b9
      have hrl := wf.len
      (repeat' (first | refine Wl.nil ?_ | refine Qseq.normal ?_ | refine Wc.seq ?_))
      refine Wc.regionT rfl (by kernel_rfl) (fun w' => Chg (fun b => lab b = some true ∧ b ≠ bl) w10 w') (Chg.drew _ _) ?_
      intro w11 n11
      have hk : ∀ w', Chg (fun b => lab b = some true ∧ b ≠ bl) w10 w' → Bk w' bl tStk [bv, .slice ra S.rows.length rc, vi (S.laid + 1)] := fun w' hw => k10.chg hw (fun e => e.2 rfl)
      have hp10 : ∀ w', Chg (fun b => lab b = some true ∧ b ≠ bl) w10 w' → Bk w' w.heap.size 25 [vs p.target, .slice wa p.nodes.length wc, .slice ea p.drop.length ec] := fun w' hw => b10.chg hw (fun e => by have := lowb _ _ e.1; omega)
      (repeat' (first | refine Wt.quiet rfl (Wq.moveE (by conv => { lhs; whnf }) (Wq.nil ?_)) | refine Wt.quiet rfl (Wq.nilP rfl (Wq.nil ?_)) | refine Wt.quiet rfl (Wq.fieldAddr rfl rfl (Wq.nil ?_))))
      refine Wt.quiet rfl (Wq.load1 rfl (fun w' hw => (hk w' hw).cell (o := 1) rfl) (Wq.nil ?_))
      (repeat' (first | refine Wt.quiet rfl (Wq.moveE (by conv => { lhs; whnf }) (Wq.nil ?_)) | refine Wt.quiet rfl (Wq.nilP rfl (Wq.nil ?_)) | refine Wt.quiet rfl (Wq.fieldAddr rfl rfl (Wq.nil ?_))))
      refine Wt.quiet rfl (Wq.load1 rfl (fun w' hw => (hk w' hw).cell (o := 2) rfl) (Wq.nil ?_))
      refine Wt.quiet rfl (Wq.loadAt (fun w' hw => (hp10 w' hw).at) rfl rfl (Wq.nil ?_))
      (repeat' (refine Wt.quiet rfl (Wq.moveE (by conv => { lhs; whnf }) (Wq.nil ?_))))
      refine Wt.chain rfl (Wl.buildG (ps := [(0, .tmp 56), (1, .tmp 57), (2, .tmp 58)]) (parts := [(0, vi (S.laid + 1)), (1, .agg #[vs p.target, .slice wa p.nodes.length wc, .slice ea p.drop.length ec]), (2, .slice ua u.length uc)]) rfl run_buildRow ?_)
      refine Wl.nil ⟨rfl, n11.any, ?_⟩
      have s11 := n11.size
      refine Wt.chain rfl (Wl.buildSlice1 (R := rRow) (y := ⟨S.laid + 1, p, u⟩) (Pe := fun b => w.heap.size < b ∧ b < w10.heap.size) goodRow rfl rfl rfl ⟨_, _, _, rfl, (nw10.keep stableNd n11.keep).mono monoNd fun b _ e => ⟨e, by omega⟩, (dw10.keep (stable_one _) n11.keep).mono (mono_one _) fun b _ e => ⟨e, by omega⟩, (uw10.keep stableNd n11.keep).mono monoNd fun b _ e => ⟨e, by omega⟩⟩ (by omega) (by omega) fun vt w12 ot n12 s12 hobt => ?_)
      have n1012 := New.trans n11 n12
      refine Wl.nil ⟨rfl, n1012.any, ?_⟩
      have rows12 := (rows10.keep stableRow n1012.keep n1012.keep).mono monoRow (Pb' := fun b => lab b = some true ∧ b ≠ bl) (Pe' := fun b => lab b = some false ∨ (w.heap.size < b ∧ b < w12.heap.size)) (fun b _ e => e) (fun b _ e => .inl e)
      refine Wt.chain rfl (Wl.appendAll goodRow rows12 (ot.rd monoRow) (fun y cs hy => monoRow _ _ _ _ _ (fun b hb e => ⟨.inr (by rcases e with e | e <;> omega), fun e' => by have := lowb b true (rows12.lt e').1.1; rcases e with e | e <;> omega⟩) hy) rfl rfl (by omega) (by simp only [maxLen, List.length_singleton]; omega) (by simp only [List.length_singleton]; omega) fun rv13 w13 o13 c13 lie _ => ?_)
      have c1013 : Chg (fun b => lab b = some true ∧ b ≠ bl) w10 w13 := Chg.trans n1012.any c13 (fun b _ e => (rows12.lt e).1)
      refine Wl.nil ⟨rfl, c1013, ?_⟩
      (repeat' (first | refine Wt.quiet rfl (Wq.nilP rfl (Wq.nil ?_)) | refine Wt.quiet rfl (Wq.fieldAddr rfl rfl (Wq.nil ?_))))
      have h13 : rv13.oneCell' = true := by obtain ⟨_, _, rfl, _⟩ := o13.form; rfl
      refine Wt.last rfl (Wl.store1 (hk w13 c1013) rfl (show (1 : Nat) < 3 by omega) rfl h13 fun w14 k14 c14 => ?_)
      replace k14 : Bk w14 bl tStk [bv, rv13, vi (S.laid + 1)] := k14
      have c1014 : Chg (fun b => lab b = some true) w10 w14 := Chg.trans (c1013.mono fun b _ e => e.1) c14 fun b _ e => e ▸ h.lb
      have c014 : Chg (fun b => lab b = some true) w w14 := Chg.trans (Chg.trans c05 c510 fun b hb e => by omega) c1014 fun _ _ e => e
      have s13 := c13.size
      have s14 := c14.size
      have o14 := o13.keep stableRow (c14.keep fun b _ hb e => by rcases hb with hb | hb; exact hb.2 e; omega) (c14.keep fun b _ hb e => by rcases hb with hb | hb; rw [e, h.lb] at hb; cases hb; omega)
      have base14 := base10.keep stableNd (c1014.keep fun b _ hb e => by rw [hb] at e; cases e)
      (repeat' (first | refine Wl.moveE (by conv => { lhs; whnf }) ?_ | refine Wl.nil ?_ | refine Qseq.normal ?_ | refine Wc.seq ?_ | refine Wc.region ?_ | refine Wl.nilP rfl ?_ | refine Wl.fieldAddr rfl rfl ?_))
      refine Wl.load1 rfl (k14.cell (o := 2) rfl) ?_
      (repeat' (first | refine Wl.assignE (by conv => { lhs; whnf }) ?_ | refine Wl.nil ?_ | refine Qseq.normal ?_ | refine Wc.ret ?_))
      refine Qfn.ret2 rfl rfl rfl ⟨_, rfl, rfl, ⟨fun b => if b < w.heap.size then lab b else if b < w12.heap.size then (if b = w.heap.size then none else some false) else if b < w14.heap.size then some true else none, bv, rv13, ⟨fun b c e => ?_, ?_, k14, ?_, ?_⟩, fun b hb => if_pos hb⟩, c014⟩
      · split at e
        · have := h.low b c e; omega
        · split at e
          · split at e
            · cases e
            · omega
          · split at e
            · omega
            · cases e
      · rw [if_pos hblw]; exact h.lb
      · exact base14.mono monoNd fun b _ e => by rw [if_pos (lowb b _ e)]; exact e
      · refine o14.mono monoRow (fun b hb e => ?_) (fun b hb e => ?_)
        · rcases e with e | e
          · exact ⟨by rw [if_pos (lowb b _ e.1)]; exact e.1, e.2⟩
          · exact ⟨by rw [if_neg (by omega), if_neg (by omega), if_pos hb], by omega⟩
        · rcases e with e | e
          · rw [if_pos (lowb b _ e)]; exact e
          · rw [if_neg (by omega), if_pos e.2, if_neg (by omega)]
end Go.Proofs.YtjpebmgllfiloaaDoor
