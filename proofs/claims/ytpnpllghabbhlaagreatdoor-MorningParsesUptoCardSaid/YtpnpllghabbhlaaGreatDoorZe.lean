/-
  Texts of this claim, one behind the other: MU, MV, MX, MW, Bulk, MY.
-/
import Derived.Test.YtpnpllghabbhlaaGreatDoorZd
import Derived.Test.YtpnpllghabbhlaaGreatDoorRows
import Derived.ChangeSame
import Derived.Lib.LaidTab
namespace Go.Proofs.YtpnpllghabbhlaaGreatDoor
open Go Wk
open Go.RowKit (Below)
attribute [local irreducible] Go.Calls

/-- What is asked of an order that is handed in. -/
structure OrdIn (x : List UInt8) (xs : List (List UInt8)) : Prop where
  h1 : x.length ≤ 1048576
  h2 : xs.length ≤ 1048576
  h3 : xs.flatten.length ≤ 1048576
theorem OrdIn.each {x : List UInt8} {xs : List (List UInt8)} (h : OrdIn x xs) : ∀ y ∈ xs, y.length ≤ 1048576 := fun y hy => by have := flat_mem_len hy; have := h.h3; omega
theorem OrdIn.all {x : List UInt8} {xs : List (List UInt8)} (h : OrdIn x xs) : ∀ y ∈ x :: xs, y.length ≤ 100000000 := fun y hy => by
  rcases List.mem_cons.1 hy with rfl | hy
  · have := h.h1; omega
  · have := h.each y hy; omega
theorem OrdIn.line {x : List UInt8} {xs : List (List UInt8)} (h : OrdIn x xs) : (lineW (x :: xs)).length ≤ 1000000000 := by
  have h0 := lineW_len (x :: xs)
  rw [List.flatten_cons, List.length_append, List.length_cons] at h0
  have := h.h1; have := h.h2; have := h.h3
  omega
/-- An order's line. -/
def printM (x : List UInt8) (xs : List (List UInt8)) : Option (List UInt8) := if mayM x xs = true ∧ (lineW (x :: xs)).length ≤ 1048576 then some (lineW (x :: xs)) else none
theorem Print1_spec {Pb : Nat → Prop} {w w0 : World} {bo bs : Nat} {x : List UInt8} {u : Value} {xs : List (List UInt8)} {c0 : Value} (h : Bk w bo 28 [vs x, u]) (hu : RdS (one vs) 1 Pb w u xs) (hs : Bk w bs tStr [c0]) (hPb : ∀ k, Pb k → k ≠ bs) (hne : bo ≠ bs) (hO : OrdIn x xs) (hE : ErrV w) (ht : Tb w) :
    Calls Tryz.prog 19 #[.pointer (some ⟨bo, 0, none⟩), .pointer (some ⟨bs, 0, none⟩)] w
      (RetX (fun _ w' => (∃ l, printM x xs = some l ∧ Bk w' bs tStr [vs l]) ∧ Chg (fun k => k = bs) w w')
        (fun c w' => ∃ e, c = wrongC e ∧ (e = 320 ∧ printM x xs = none) ∧ Chg (fun k => k = bs) w w')) := by
  have hx1 := hO.h1
  have hx2 := hO.h2
  refine calls_of_Wc Tryz.func19 rfl Tryz.ntmps19 rfl ?_
  (repeat' (first | refine Wc.seq ?_ | refine Wc.region ?_))
  refine Wl.loadB h rfl rfl ?_
  refine Wl.callX (check_spec (e := 320) hu hE ht (by omega) fun y hy => by have := hO.each y hy; omega) rfl ?_ ?_
  · rintro c w1 ⟨hm, rfl, n1⟩
    (repeat' (first | refine Qseq.panic ?_ | refine Qfn.panic ?_))
    exact ⟨320, rfl, ⟨rfl, by unfold printM; rw [hm, if_neg (by rintro ⟨q, _⟩; cases q)]⟩, n1.any⟩
  rintro _ w1 ⟨hm, rfl, n1⟩
  have h1 := h.chg n1 fun e => e
  have hs1 := hs.chg n1 fun e => e
  have hu1 := hu.keep (stable_one _) n1.keep
  have hz1 := n1.size
  have hbl := h.lt
  have hsl := hs.lt
  (repeat' (first | refine Wl.nil ?_ | refine Qseq.normal ?_ | refine Wc.seq ?_ | refine Wc.region ?_ | refine Wl.fieldAddr rfl rfl ?_))
  refine Wl.load1 (u := vs x) rfl (h1.cell (o := 0) rfl) ?_
  refine Wl.buildSlice1 (R := one vs) (Pe := NoB) (y := x) goodVs rfl rfl rfl rfl (by omega) (by omega) fun v2 w2 o2 n2 s2 e2 => ?_
  have h2 := h1.chg n2 fun e => e
  have hs2 := hs1.chg n2 fun e => e
  have hu2 := hu1.keep (stable_one _) n2.keep
  (repeat' (refine Wl.fieldAddr rfl rfl ?_))
  refine Wl.load1 (u := u) rfl (h2.cell (o := 1) rfl) ?_
  refine Wl.appendAll (R := one vs) goodVs o2 hu2 (fun y cs hy => hy) rfl rfl (by omega) (by simp only [maxLen, List.length_singleton]; omega) (by simp only [List.length_singleton]; omega) fun v3 w3 o3 c3 lie _ => ?_
  have n13 : New w1 w3 := (Chg.trans n2.any c3 fun _ _ e => e).toNew fun k hk e => by have := (o2.lt e).1; omega
  skip
  refine Wl.call (LineP_spec (l := x :: xs) (o3.rd goodVs.mo) hO.all hO.line) rfl ?_
  rintro _ w4 ⟨rfl, n4⟩
  have n14 := New.trans n13 n4
  have hs4 := hs1.chg n14 fun e => e
  refine Wl.store1 (u := vs (lineW (x :: xs))) hs4 rfl (show (0 : Nat) < 1 by omega) rfl rfl fun w5 b5 c5 => ?_
  replace b5 : Bk w5 bs tStr [vs (lineW (x :: xs))] := b5
  have c15 : Chg (fun k => k = bs) w w5 := Chg.trans (New.trans n1 n14).any c5 fun _ _ e => e
  (repeat' (first | refine Wl.nil ?_ | refine Qseq.normal ?_ | refine Wc.region ?_))
  refine Wl.load1 (u := vs (lineW (x :: xs))) rfl (b5.cell (o := 0) rfl) ?_
  (repeat' (refine Wl.lenStr rfl ?_))
  refine Wl.leq rfl rfl (fun hle => ?_) (fun hle => ?_)
  · refine Wl.callX (must_spec (b := true) (e := 320)) rfl ?_ ?_
    · rintro c w9 ⟨q, _⟩
      cases q
    rintro _ _ ⟨_, rfl, rfl⟩
    (repeat' (refine Wl.nil ?_))
    exact Qfn.end0 rfl ⟨⟨_, by unfold printM; rw [if_pos ⟨hm, by omega⟩], b5⟩, c15⟩
  · refine Wl.callX (must_spec (b := false) (e := 320)) rfl ?_ ?_
    · rintro c w9 ⟨_, rfl, rfl⟩
      (repeat' (refine Qfn.panic ?_))
      exact ⟨320, rfl, ⟨rfl, by unfold printM; rw [if_neg (by rintro ⟨_, q⟩; omega)]⟩, c15⟩
    · rintro c w9 ⟨q, _⟩
      cases q
/-- What Print answers. -/
def PrtR (x : List UInt8) (xs : List (List UInt8)) (r : Value) : Prop := match printM x xs with
  | some l => r = .tuple #[vs l, vi 0]
  | none => r = .tuple #[vs [], vi 320]
theorem Print_spec' {Pb : Nat → Prop} {w : World} {x : List UInt8} {u : Value} {xs : List (List UInt8)} (hu : RdS (one vs) 1 Pb w u xs) (hO : OrdIn x xs) (hE : ErrV w) (ht : Tb w) :
    Calls Tryz.prog 10 #[ordP x u] w (Ret fun r w' => PrtR x xs r ∧ New w w') := by
  obtain ⟨a, cp, rfl, hc1, hc2⟩ := hu.form
  replace hu := hu.mono (Pb' := fun k => k < w.heap.size) (mono_one _) fun k hk _ => hk
  refine calls_of_Wc Tryz.func10 rfl Tryz.ntmps10 rfl ?_
  (repeat' (first | refine Wc.seq ?_ | refine Wc.region ?_))
  refine Wl.box rfl fun w1 b1 n1 s1 => ?_
  replace b1 : Bk w1 w.heap.size 28 [vs x, .slice a xs.length cp] := b1
  (repeat' (first | refine Wl.assignE (by conv => { lhs; whnf }) ?_ | refine Wl.nil ?_ | refine Qseq.normal ?_ | refine Wc.seq ?_ | refine Wc.region ?_))
  refine Wl.alloc fun w2 b2 n2 s2 => ?_
  replace b2 : Bk w2 w1.heap.size tStr [vs []] := b2
  refine Wl.store1 (u := vs []) b2 rfl (show (0 : Nat) < 1 by omega) rfl rfl fun w3 b3 c3 => ?_
  replace b3 : Bk w3 w1.heap.size tStr [vs []] := b3
  have n23 : New w1 w3 := (Chg.trans n2.any c3 fun _ _ e => e).toNew fun k hk e => by omega
  have n13 := New.trans n1 n23
  have hz1 := n1.size
  have hz3 := n23.size
  have hz2 := b3.lt
  (repeat' (first | refine Wl.nil ?_ | refine Qseq.normal ?_ | refine Wc.seq ?_ | refine Wc.region ?_))
  refine Wl.makeFunc (f1 := []) (c1 := [.pointer (some ⟨w.heap.size, 0, none⟩), .pointer (some ⟨w1.heap.size, 0, none⟩)]) rfl rfl ?_
  refine Wl.call (caught_spec (w := w3) (g := 19) (cap := [.pointer (some ⟨w.heap.size, 0, none⟩), .pointer (some ⟨w1.heap.size, 0, none⟩)]) (M := fun k => k = w1.heap.size)
    (φ := fun w' => ∃ l, printM x xs = some l ∧ Bk w' w1.heap.size tStr [vs l]) (X := fun e _ => e = 320 ∧ printM x xs = none) (by omega) fun w4 n4 s4 => ?_) rfl ?_
  · refine Print1_spec (w0 := w) ((b1.chg n23 fun e => e).chg n4 fun e => e) ((hu.keep (stable_one _) n13.keep).keep (stable_one _) n4.keep) (b3.chg n4 fun e => e) (fun k hk => by omega) (by omega) hO ((hE.new n13).new n4) ((ht.new n13).new n4)
  unfold PrtR
  rintro r w6 (⟨rfl, w5, ⟨l, hp, hb⟩, c5, c6, hz5⟩ | ⟨e, rfl, w5, ⟨rfl, hp⟩, c5, c6, hz5⟩)
  · rw [hp]
    have n06 : New w w6 := (((Chg.trans n13.any c5 fun _ _ e => e).mono (M' := fun k => k = w1.heap.size ∨ k = w3.heap.size) fun _ _ e => .inl e).trans c6 fun _ _ e => .inr e).toNew fun k hk e => by omega
    (repeat' (first | refine Wl.moveE (by conv => { lhs; whnf }) ?_ | refine Wl.assignE (by conv => { lhs; whnf }) ?_ | refine Wl.nil ?_ | refine Qseq.normal ?_ | refine Wc.seq ?_ | refine Wc.region ?_ | refine Wc.skip ?_ | refine Wc.condF rfl ?_ | (refine Wl.neq rfl rfl (fun _ => ?_) (fun _ => ?_) <;> (first | (exfalso; omega) | skip))))
    refine Wl.load1 (u := vs l) rfl ((hb.chg c6 (by omega)).cell (o := 0) rfl) ?_
    (repeat' (first | refine Wl.assignE (by conv => { lhs; whnf }) ?_ | refine Wl.nil ?_ | refine Qseq.normal ?_ | refine Wc.ret ?_))
    exact Qfn.ret2 rfl rfl rfl ⟨_, rfl, rfl, n06⟩
  · rw [hp]
    have n06 : New w w6 := (((Chg.trans n13.any c5 fun _ _ e => e).mono (M' := fun k => k = w1.heap.size ∨ k = w3.heap.size) fun _ _ e => .inl e).trans c6 fun _ _ e => .inr e).toNew fun k hk e => by omega
    (repeat' (first | refine Wl.moveE (by conv => { lhs; whnf }) ?_ | refine Wl.assignE (by conv => { lhs; whnf }) ?_ | refine Wl.nil ?_ | refine Qseq.normal ?_ | refine Wc.seq ?_ | refine Wc.region ?_ | refine Wc.ret ?_ | refine Qseq.ret ?_ | refine Wc.condT rfl ?_ | (refine Wl.neq rfl rfl (fun _ => ?_) (fun _ => ?_) <;> (first | (exfalso; omega) | skip))))
    exact Qfn.ret2 rfl rfl rfl ⟨_, rfl, rfl, n06⟩
end Go.Proofs.YtpnpllghabbhlaaGreatDoor

namespace Go.Proofs.YtpnpllghabbhlaaGreatDoor
open Go Wk
open Go.RowKit (Below)
attribute [local irreducible] Go.Calls

theorem PrintR_spec {Pb : Nat → Prop} {w : World} {x : List UInt8} {u : Value} {xs : List (List UInt8)} (hu : RdS (one vs) 1 Pb w u xs) (hO : OrdIn x xs) (hE : ErrV w) (ht : Tb w) :
    Calls Tryz.prog 9 #[ordP x u] w (Ret fun r w' => PrtR x xs r ∧ New w w') := by
  obtain ⟨a, cp, rfl, hc1, hc2⟩ := hu.form
  have hx1 := hO.h1
  have hx2 := hO.h2
  unfold PrtR
  refine calls_of_Wc Tryz.func9 rfl Tryz.ntmps9 rfl ?_
  (repeat' (first | refine Wc.seq ?_ | refine Wc.region ?_))
  refine Wl.box rfl fun w1 b1 n1 s1 => ?_
  replace b1 : Bk w1 w.heap.size 24 [vs x, .slice a xs.length cp] := b1
  have hu1 := hu.keep (stable_one _) n1.keep
  (repeat' (first | refine Wl.assignE (by conv => { lhs; whnf }) ?_ | refine Wl.nil ?_ | refine Qseq.normal ?_ | refine Wc.seq ?_ | refine Wc.region ?_))
  refine Wl.loadB b1 rfl rfl ?_
  refine Wl.call (May_spec hu1 (hE.new n1) (ht.new n1) (by omega) fun y hy => by have := hO.each y hy; omega) rfl ?_
  rintro _ w2 ⟨rfl, n2⟩
  have n12 := New.trans n1 n2
  cases hm : mayM x xs
  · have hp : printM x xs = none := by unfold printM; rw [hm, if_neg (by rintro ⟨q, _⟩; cases q)]
    rw [hp]
    (repeat' (first | refine Wl.assignE (by conv => { lhs; whnf }) ?_ | refine Wl.nil ?_ | refine Wl.notB rfl ?_ | refine Qseq.normal ?_ | refine Wc.seq ?_ | refine Wc.region ?_ | refine Wc.ret ?_ | refine Qseq.ret ?_ | refine Wc.condT rfl ?_))
    exact Qfn.ret2 rfl rfl rfl ⟨_, rfl, rfl, n12⟩
  have b2 := b1.chg n2 fun e => e
  (repeat' (first | refine Wl.nil ?_ | refine Wl.notB rfl ?_ | refine Qseq.normal ?_ | refine Wc.seq ?_ | refine Wc.region ?_ | refine Wc.skip ?_ | refine Wc.condF rfl ?_ | refine Wl.fieldAddr rfl rfl ?_))
  refine Wl.load1 (u := vs x) rfl (b2.cell (o := 0) rfl) ?_
  refine Wl.buildSlice1 (R := one vs) (Pe := NoB) (y := x) goodVs rfl rfl rfl rfl (by omega) (by omega) fun v3 w3 o3 n3 s3 e3 => ?_
  have b3 := b2.chg n3 fun e => e
  have hu3 := (hu1.keep (stable_one _) n2.keep).keep (stable_one _) n3.keep
  (repeat' (refine Wl.fieldAddr rfl rfl ?_))
  refine Wl.load1 (u := .slice a xs.length cp) rfl (b3.cell (o := 1) rfl) ?_
  refine Wl.appendAll (R := one vs) goodVs o3 hu3 (fun y cs hy => hy) rfl rfl (by omega) (by simp only [maxLen, List.length_singleton]; omega) (by simp only [List.length_singleton]; omega) fun v4 w4 o4 c4 lie _ => ?_
  have n24 : New w2 w4 := (Chg.trans n3.any c4 fun _ _ e => e).toNew fun k hk e => by have := (o3.lt e).1; omega
  refine Wl.call (LineR_spec (l := x :: xs) (o4.rd goodVs.mo) hO.all hO.line) rfl ?_
  rintro _ w5 ⟨rfl, n5⟩
  have n05 := New.trans n12 (New.trans n24 n5)
  (repeat' (first | refine Wl.moveE (by conv => { lhs; whnf }) ?_ | refine Wl.assignE (by conv => { lhs; whnf }) ?_ | refine Wl.nil ?_ | refine Wl.lenStr rfl ?_ | refine Qseq.normal ?_ | refine Wc.seq ?_ | refine Wc.region ?_))
  refine Wl.gtr rfl rfl (fun hle => ?_) (fun hle => ?_)
  · have hp : printM x xs = none := by unfold printM; rw [hm, if_neg (by rintro ⟨_, q⟩; omega)]
    rw [hp]
    (repeat' (first | refine Wl.assignE (by conv => { lhs; whnf }) ?_ | refine Wl.nil ?_ | refine Qseq.normal ?_ | refine Wc.seq ?_ | refine Wc.region ?_ | refine Wc.ret ?_ | refine Qseq.ret ?_ | refine Wc.condT rfl ?_))
    exact Qfn.ret2 rfl rfl rfl ⟨_, rfl, rfl, n05⟩
  · have hp : printM x xs = some (lineW (x :: xs)) := by unfold printM; rw [hm, if_pos ⟨rfl, by omega⟩]
    rw [hp]
    (repeat' (first | refine Wl.moveE (by conv => { lhs; whnf }) ?_ | refine Wl.assignE (by conv => { lhs; whnf }) ?_ | refine Wl.nil ?_ | refine Qseq.normal ?_ | refine Wc.seq ?_ | refine Wc.region ?_ | refine Wc.skip ?_ | refine Wc.ret ?_ | refine Wc.condF rfl ?_))
    exact Qfn.ret2 rfl rfl rfl ⟨_, rfl, rfl, n05⟩
theorem run_buildR {w : World} {x : List UInt8} {a : Option Addr} {l c : Nat} : (Instr.build 24 #[(0, vs x), (1, .slice a l c)]).run Tryz.prog w = .ok (.agg #[vs x, .slice a l c]) w := by kernel_rfl
theorem run_buildR0 {w : World} : (Instr.build 24 #[]).run Tryz.prog w = .ok (.agg #[vs [], .slice none 0 0]) w := by kernel_rfl
theorem cells2 {x : List UInt8} {a : Option Addr} {l c : Nat} : ∀ q ∈ [vs x, Value.slice a l c], q.oneCell' = true := by
  intro q hq
  rcases List.mem_cons.1 hq with rfl | hq
  · rfl
  · rw [List.mem_singleton.1 hq]; rfl
theorem order_spec {Pb : Nat → Prop} {w : World} {x : List UInt8} {u : Value} {xs : List (List UInt8)} (hu : RdS (one vs) 1 Pb w u xs) (hl : xs.length ≤ 3000000) :
    Calls Tryz.prog 8 #[ordP x u] w (Ret fun r w' => (∃ v, r = .agg #[vs x, v] ∧ OwnS (one vs) tStr 1 (fun k => w.heap.size ≤ k) NoB w' v xs) ∧ New w w') := by
  obtain ⟨a, cp, rfl, hc1, hc2⟩ := hu.form
  refine calls_of_Wc Tryz.func8 rfl Tryz.ntmps8 rfl ?_
  (repeat' (first | refine Wc.seq ?_ | refine Wc.region ?_))
  refine Wl.box rfl fun w1 b1 n1 s1 => ?_
  replace b1 : Bk w1 w.heap.size 24 [vs x, .slice a xs.length cp] := b1
  refine Wl.alloc fun w2 b2 n2 s2 => ?_
  replace b2 : Bk w2 w1.heap.size 28 [vs [], .slice none 0 0] := b2
  have b1' := b1.chg n2 fun e => e
  have hu2 := hu.keep (stable_one _) (New.trans n1 n2).keep
  have n12 := New.trans n1 n2
  have hz := n12.size
  have hz1 := n1.size
  (repeat' (first | refine Wl.nil ?_ | refine Qseq.normal ?_ | refine Wc.seq ?_))
  refine Wc.regionT rfl (by kernel_rfl) (fun w' => New w2 w') (Chg.drew _ _) ?_
  intro w3 n3
  (repeat' (refine Wt.quiet rfl (Wq.fieldAddr rfl rfl (Wq.nil ?_))))
  refine Wt.quiet rfl (Wq.load1 (u := vs x) rfl (fun w' hw => (b1'.chg hw fun e => e).cell (o := 0) rfl) (Wq.nil ?_))
  refine Wt.chain rfl (Wl.buildSlice0 (R := one vs) (Pe := NoB) fun v4 w4 o4 n4 => ?_)
  have n24 := New.trans n3 n4
  refine Wl.nil ⟨rfl, n24, ?_⟩
  (repeat' (refine Wt.quiet rfl (Wq.fieldAddr rfl rfl (Wq.nil ?_))))
  refine Wt.quiet rfl (Wq.load1 (u := .slice a xs.length cp) rfl (fun w' hw => (b1'.chg hw fun e => e).cell (o := 1) rfl) (Wq.nil ?_))
  refine Wt.chain rfl (Wl.appendAll (R := one vs) goodVs o4 (hu2.keep (stable_one _) n24.keep) (fun y cs hy => hy) rfl rfl (by omega) (by simp only [maxLen, List.length_nil]; omega) (by simp only [List.length_nil]; omega) fun v5 w5 o5 c5 lie _ => ?_)
  have hz3 := n3.size
  have n25 : New w2 w5 := (Chg.trans n24.any c5 fun _ _ e => e).toNew fun k hk e => by have := (o4.lt e).1; omega
  refine Wl.nil ⟨rfl, n25, ?_⟩
  obtain ⟨ua, uc, rfl, _, _⟩ := o5.form
  refine Wt.chain rfl (Wl.buildG rfl (run_buildO (x := x)) ?_)
  refine Wl.nil ⟨rfl, n25, ?_⟩
  refine Wt.last rfl (Wl.storeB (u := .agg #[vs x, .slice ua ([] ++ xs).length uc]) (new := [vs x, .slice ua ([] ++ xs).length uc]) (b2.chg n25 fun e => e) rfl rfl rfl rfl (Nat.le_refl 2) cells2 fun w6 b6 c6 s6 => ?_)
  replace b6 : Bk w6 w1.heap.size 28 [vs x, .slice ua ([] ++ xs).length uc] := b6
  (repeat' (first | refine Wl.nil ?_ | refine Qseq.normal ?_ | refine Wc.ret ?_))
  have hz2 := n2.size
  have hz5 := n25.size
  refine Qfn.retR (results1 (a := .cell 2 28) rfl (rvOf_agg rfl rfl b6 rfl)) ⟨_, rfl, ⟨_, rfl, ?_⟩, (Chg.trans (New.trans n12 n25).any c6 fun _ _ e => e).toNew fun k hk e => by omega⟩
  have hne : ∀ k, (Value.slice ua ([] ++ xs).length uc).ownBlock = some k → k ≠ w1.heap.size := fun k hk e => by
    have := (o5.lt hk).1
    have hz4 := n24.size
    omega
  exact (o5.chg (plain_one _) c6 hne).mono goodVs.mo (fun k _ e => by rcases e with e | e <;> (have hz4 := n24.size; omega)) fun _ _ e => e
theorem back_spec {Pb : Nat → Prop} {w : World} {x : List UInt8} {u : Value} {xs : List (List UInt8)} (hu : RdS (one vs) 1 Pb w u xs) (hl : xs.length ≤ 3000000) :
    Calls Tryz.prog 7 #[ordP x u] w (Ret fun r w' => (∃ v, r = .agg #[vs x, v] ∧ OwnS (one vs) tStr 1 (fun k => w.heap.size ≤ k) NoB w' v xs) ∧ New w w') := by
  obtain ⟨a, cp, rfl, hc1, hc2⟩ := hu.form
  refine calls_of_Wc Tryz.func7 rfl Tryz.ntmps7 rfl ?_
  (repeat' (first | refine Wc.seq ?_ | refine Wc.region ?_))
  refine Wl.box rfl fun w1 b1 n1 s1 => ?_
  replace b1 : Bk w1 w.heap.size 28 [vs x, .slice a xs.length cp] := b1
  refine Wl.alloc fun w2 b2 n2 s2 => ?_
  replace b2 : Bk w2 w1.heap.size 24 [vs [], .slice none 0 0] := b2
  have b1' := b1.chg n2 fun e => e
  have hu2 := hu.keep (stable_one _) (New.trans n1 n2).keep
  have n12 := New.trans n1 n2
  have hz := n12.size
  have hz1 := n1.size
  (repeat' (first | refine Wl.nil ?_ | refine Qseq.normal ?_ | refine Wc.seq ?_))
  refine Wc.regionT rfl (by kernel_rfl) (fun w' => New w2 w') (Chg.drew _ _) ?_
  intro w3 n3
  (repeat' (refine Wt.quiet rfl (Wq.fieldAddr rfl rfl (Wq.nil ?_))))
  refine Wt.quiet rfl (Wq.load1 (u := vs x) rfl (fun w' hw => (b1'.chg hw fun e => e).cell (o := 0) rfl) (Wq.nil ?_))
  refine Wt.chain rfl (Wl.buildSlice0 (R := one vs) (Pe := NoB) fun v4 w4 o4 n4 => ?_)
  have n24 := New.trans n3 n4
  refine Wl.nil ⟨rfl, n24, ?_⟩
  (repeat' (refine Wt.quiet rfl (Wq.fieldAddr rfl rfl (Wq.nil ?_))))
  refine Wt.quiet rfl (Wq.load1 (u := .slice a xs.length cp) rfl (fun w' hw => (b1'.chg hw fun e => e).cell (o := 1) rfl) (Wq.nil ?_))
  refine Wt.chain rfl (Wl.appendAll (R := one vs) goodVs o4 (hu2.keep (stable_one _) n24.keep) (fun y cs hy => hy) rfl rfl (by omega) (by simp only [maxLen, List.length_nil]; omega) (by simp only [List.length_nil]; omega) fun v5 w5 o5 c5 lie _ => ?_)
  have hz3 := n3.size
  have n25 : New w2 w5 := (Chg.trans n24.any c5 fun _ _ e => e).toNew fun k hk e => by have := (o4.lt e).1; omega
  refine Wl.nil ⟨rfl, n25, ?_⟩
  obtain ⟨ua, uc, rfl, _, _⟩ := o5.form
  refine Wt.chain rfl (Wl.buildG rfl (run_buildR (x := x)) ?_)
  refine Wl.nil ⟨rfl, n25, ?_⟩
  refine Wt.last rfl (Wl.storeB (u := .agg #[vs x, .slice ua ([] ++ xs).length uc]) (new := [vs x, .slice ua ([] ++ xs).length uc]) (b2.chg n25 fun e => e) rfl rfl rfl rfl (Nat.le_refl 2) cells2 fun w6 b6 c6 s6 => ?_)
  replace b6 : Bk w6 w1.heap.size 24 [vs x, .slice ua ([] ++ xs).length uc] := b6
  (repeat' (first | refine Wl.nil ?_ | refine Qseq.normal ?_ | refine Wc.ret ?_))
  have hz2 := n2.size
  have hz5 := n25.size
  refine Qfn.retR (results1 (a := .cell 2 24) rfl (rvOf_agg rfl rfl b6 rfl)) ⟨_, rfl, ⟨_, rfl, ?_⟩, (Chg.trans (New.trans n12 n25).any c6 fun _ _ e => e).toNew fun k hk e => by omega⟩
  have hne : ∀ k, (Value.slice ua ([] ++ xs).length uc).ownBlock = some k → k ≠ w1.heap.size := fun k hk e => by
    have := (o5.lt hk).1
    have hz4 := n24.size
    omega
  exact (o5.chg (plain_one _) c6 hne).mono goodVs.mo (fun k _ e => by rcases e with e | e <;> (have hz4 := n24.size; omega)) fun _ _ e => e
/-- What the reference's Parse answers. -/
def OrdRR (lo : Nat) (w : World) (s : List UInt8) (r : Value) : Prop := match parseM s with
  | some (x, xs) => ∃ u, r = .tuple #[.agg #[vs x, u], vi 0] ∧ RdS (one vs) 1 (fun k => lo ≤ k) w u xs
  | none => r = .tuple #[.agg #[vs [], .slice none 0 0], vi 4]
section
variable {P : Program} {n : Nat} {ds : List Deferred} {Q : Po} {ops : List Oper} {C : World → Prop} {F : Fr} {w : World}
theorem Wk.Wg.joinTo {f m : Nat} {l : List Nat} (l' : List Nat) (D : Fr → World → Prop) (k : ∀ F' w', D F' w' → Wg P n ds C Q ops f l' F' w') (h : (∀ F' w', D F' w' → Wg P n ds C Q ops f l' F' w') → Wg P n ds C Q ops (f + m) l F w) : Wg P n ds C Q ops (f + m) l F w := h k
end
theorem ParseR_spec {w : World} {s : List UInt8} (hl : s.length ≤ 90000000) (hE : ErrV w) (ht : Tb w) :
    Calls Tryz.prog 4 #[vs s] w (Ret fun r w' => OrdRR w.heap.size w' s r ∧ New w w') := by
  unfold OrdRR
  refine calls_of_Wc Tryz.func4 rfl Tryz.ntmps4 rfl ?_
  (repeat' (first | refine Wc.seq ?_ | refine Wc.region ?_))
  refine Wl.alloc fun w1 b1 n1 s1 => ?_
  replace b1 : Bk w1 w.heap.size 24 [vs [], .slice none 0 0] := b1
  have hz1 := n1.size
  (repeat' (first | refine Wl.moveE (by conv => { lhs; whnf }) ?_ | refine Wl.assignE (by conv => { lhs; whnf }) ?_ | refine Wl.nil ?_ | refine Wl.lenStr rfl ?_ | refine Qseq.normal ?_ | refine Wc.seq ?_ | refine Wc.region ?_))
  refine Wl.gtr rfl rfl (fun hle => ?_) (fun hle => ?_)
  · have hp : parseM s = none := by unfold parseM; rw [if_neg (by omega)]
    rw [hp]
    (repeat' (first | refine Wl.nil ?_ | refine Qseq.normal ?_ | refine Wc.seq ?_ | refine Wc.region ?_ | refine Wc.condT rfl ?_))
    refine Wl.buildG rfl run_buildR0 ?_
    refine Wl.storeB (u := .agg #[vs [], .slice none 0 0]) (new := [vs [], .slice none 0 0]) b1 rfl rfl rfl rfl (Nat.le_refl 2) cells2 fun w7 b7 c7 s7 => ?_
    replace b7 : Bk w7 w.heap.size 24 [vs [], .slice none 0 0] := b7
    (repeat' (first | refine Wl.assignE (by conv => { lhs; whnf }) ?_ | refine Wl.nil ?_ | refine Qseq.normal ?_ | refine Wc.ret ?_ | refine Qseq.ret ?_))
    refine Qfn.retR (results2 (a := .cell 2 24) (b := .tmp 3) rfl (rvOf_agg rfl rfl b7 rfl) (rvOf_tmp rfl)) ⟨_, rfl, rfl, (Chg.trans n1.any c7 fun _ _ e => e).toNew fun k hk e => by omega⟩
  have hpm : parseM s = match unlineW s with
    | some (x :: xs) => if mayM x xs = true then some (x, xs) else none
    | _ => none := by
    unfold parseM
    rw [if_pos (by omega)]
    rfl
  replace hle := Fact.mk hle
  (repeat' (first | refine Wl.moveE (by conv => { lhs; whnf }) ?_ | refine Wl.nil ?_ | refine Qseq.normal ?_ | refine Wc.seq ?_ | refine Wc.region ?_ | refine Wc.skip ?_ | refine Wc.condF rfl ?_))
  refine Wl.call (FieldsRef_spec (s := s) hl) rfl ?_
  rintro r w2 ⟨hr, n2⟩
  have b2 := b1.chg n2 fun e => e
  have n12 := New.trans n1 n2
  have hz2 := n2.size
  unfold FldR at hr
  cases hu : unlineW s with
  | none =>
    rw [hu] at hr hpm
    dsimp only at hr hpm
    rw [hpm]
    subst hr
    (repeat' (first | refine Wl.moveE (by conv => { lhs; whnf }) ?_ | refine Wl.assignE (by conv => { lhs; whnf }) ?_ | refine Wl.nil ?_ | refine Wl.extract rfl rfl ?_ | refine Wl.guardN rfl rfl ?_ | refine Wl.pickTE rfl (by conv => { lhs; whnf }) ?_ | refine Qseq.normal ?_ | refine Wc.seq ?_ | refine Wc.region ?_ | refine Wc.condT rfl ?_ | (refine Wl.neq rfl rfl (fun _ => ?_) (fun _ => ?_) <;> (first | (exfalso; omega) | skip))))
    refine Wl.buildG rfl run_buildR0 ?_
    refine Wl.storeB (u := .agg #[vs [], .slice none 0 0]) (new := [vs [], .slice none 0 0]) b2 rfl rfl rfl rfl (Nat.le_refl 2) cells2 fun w7 b7 c7 s7 => ?_
    replace b7 : Bk w7 w.heap.size 24 [vs [], .slice none 0 0] := b7
    (repeat' (first | refine Wl.assignE (by conv => { lhs; whnf }) ?_ | refine Wl.nil ?_ | refine Qseq.normal ?_ | refine Wc.ret ?_ | refine Qseq.ret ?_))
    exact Qfn.retR (results2 (a := .cell 2 24) (b := .tmp 3) rfl (rvOf_agg rfl rfl b7 rfl) (rvOf_tmp rfl)) ⟨_, rfl, rfl, (Chg.trans n12.any c7 fun _ _ e => e).toNew fun k hk e => by omega⟩
  | some l =>
    rw [hu] at hr hpm
    obtain ⟨v, rfl, o⟩ := hr
    have hlens := lens_of (unline_line hu)
    cases l with
    | nil =>
      obtain ⟨a, cap, rfl, _, _⟩ := o.form
      dsimp only at hpm
      rw [hpm]
      (repeat' (first | refine Wl.moveE (by conv => { lhs; whnf }) ?_ | refine Wl.assignE (by conv => { lhs; whnf }) ?_ | refine Wl.nil ?_ | refine Wl.extract rfl rfl ?_ | refine Wl.guardY rfl rfl ?_ | refine Wl.pickFE rfl (by conv => { lhs; whnf }) ?_ | refine Wl.lenS rfl ?_ | refine Qseq.normal ?_ | refine Wc.seq ?_ | refine Wc.region ?_ | refine Wc.condT rfl ?_ | (refine Wl.eql rfl rfl (fun _ => ?_) (fun _ => ?_) <;> (first | (exfalso; contradiction) | skip)) | (refine Wl.neq rfl rfl (fun _ => ?_) (fun _ => ?_) <;> (first | (exfalso; omega) | skip))))
      refine Wl.buildG rfl run_buildR0 ?_
      refine Wl.storeB (u := .agg #[vs [], .slice none 0 0]) (new := [vs [], .slice none 0 0]) b2 rfl rfl rfl rfl (Nat.le_refl 2) cells2 fun w7 b7 c7 s7 => ?_
      replace b7 : Bk w7 w.heap.size 24 [vs [], .slice none 0 0] := b7
      (repeat' (first | refine Wl.assignE (by conv => { lhs; whnf }) ?_ | refine Wl.nil ?_ | refine Qseq.normal ?_ | refine Wc.ret ?_ | refine Qseq.ret ?_))
      exact Qfn.retR (results2 (a := .cell 2 24) (b := .tmp 3) rfl (rvOf_agg rfl rfl b7 rfl) (rvOf_tmp rfl)) ⟨_, rfl, rfl, (Chg.trans n12.any c7 fun _ _ e => e).toNew fun k hk e => by omega⟩
    | cons x xs =>
      dsimp only at hpm
      obtain ⟨p, cap, hv, hcap, ha⟩ := argS_of o
      have hrd := o.rd goodVs.mo
      subst hv
      have hxl := hlens x List.mem_cons_self
      (repeat' (first | refine Wl.moveE (by conv => { lhs; whnf }) ?_ | refine Wl.assignE (by conv => { lhs; whnf }) ?_ | refine Wl.nil ?_ | refine Wl.extract rfl rfl ?_ | refine Wl.guardY rfl rfl ?_ | refine Wl.pickFE rfl (by conv => { lhs; whnf }) ?_ | refine Wl.lenS rfl ?_ | refine Qseq.normal ?_ | refine Wc.seq ?_ | refine Wc.region ?_ | refine Wc.skip ?_ | refine Wc.condF rfl ?_ | (refine Wl.eql rfl rfl (fun _ => ?_) (fun _ => ?_) <;> (first | (exfalso; omega) | skip)) | (refine Wl.neq rfl rfl (fun _ => ?_) (fun _ => ?_) <;> (first | (exfalso; omega) | skip))))
      have hxn : xs.length ≤ 90000000 := by
        have h1 := unline_line hu
        have h2 : (x :: xs).length ≤ (lineW (x :: xs)).length + 1 := by
          have : ∀ l : List (List UInt8), l.length ≤ (lineW l).length + 1 := fun l => by
            induction l with
            | nil => exact Nat.zero_le _
            | cons a l ih =>
              cases l with
              | nil => simp
              | cons b l =>
                show _ ≤ (wordW a ++ 32 :: lineW (b :: l)).length + 1
                rw [List.length_append]
                simp only [List.length_cons] at ih ⊢
                omega
          exact this _
        rw [h1, List.length_cons] at h2
        omega
      have hak : ∀ w', New w2 w' → RdS (one vs) 1 (fun k => w1.heap.size ≤ k) w' (Value.slice (if cap = 1 then some p else (some p).map (·.add (1 * 1))) (xs.length + 1 - 1) (cap - 1)) xs := fun w' hw => ha.rd.keep (stable_one _) hw.keep
      refine Wc.regionG (m := 10) rfl (by kernel_rfl) (New w2) (Chg.drew _ _) rfl ?_
      intro w3 n3
      have hz3 := n3.size
      (repeat' (refine Wg.quiet rfl rfl rfl (Wq.moveE (by conv => { lhs; whnf }) (Wq.nil ?_))))
      refine Wg.quiet rfl rfl rfl (Wq.idxAddr (j := 0) (y := x) hrd (fun w' hw => Chg.keep hw fun _ _ _ e => e) rfl rfl (by omega) rfl fun bb off cs hcl hR hat => Wq.nil ?_)
      obtain rfl : cs = [vs x] := hR
      skip
      refine Wg.quiet rfl rfl rfl (Wq.load1 (u := vs x) rfl (fun w' hw => (hat w' hw).get 0 rfl) (Wq.nil ?_))
      clear hat
      (repeat' (refine Wg.quiet rfl rfl rfl (Wq.moveE (by conv => { lhs; whnf }) (Wq.nil ?_))))
      refine Wg.quiet rfl rfl rfl (Wk.Wq.sliceFromP (a := 1) rfl rfl (by omega) (by omega) (Wq.nil ?_))
      generalize (Value.slice (if cap = 1 then some p else (some p).map (·.add (1 * 1))) (xs.length + 1 - 1) (cap - 1)) = u at ha hak ⊢
      refine Wk.Wg.joinTo (f := 1) (m := 4) [9] (fun F' w' => ∃ (ua : Option Addr) (uc b : Nat), agrees F' [(2, .pointer (some ⟨w.heap.size, 0, none⟩)), (3, vi 0), (6, .pointer (some ⟨b, 0, none⟩)), (31, .agg #[vs x, .slice ua xs.length uc])] ∧ New w2 w' ∧ OwnS (one vs) tStr 1 (fun k => w2.heap.size ≤ k) NoB w' (.slice ua xs.length uc) xs ∧ Bk w' b 24 [vs [], .slice none 0 0] ∧ w2.heap.size ≤ b ∧ (Value.slice ua xs.length uc).ownBlock ≠ some b) ?_ (fun K => ?_)
      · rintro F' w7 ⟨ua, uc, b, hag, n7, o7, b7, hb7, hnb⟩
        rw [← upds_of_agrees hag]
        simp only [upds]
        clear hag
        refine Wg.last rfl rfl rfl rfl (Wl.storeB (u := .agg #[vs x, .slice ua xs.length uc]) (new := [vs x, .slice ua xs.length uc]) b7 rfl rfl rfl rfl (Nat.le_refl 2) cells2 fun w8 b8 c8 s8 => Wl.nil ?_)
        replace b8 : Bk w8 b 24 [vs x, .slice ua xs.length uc] := b8
        have n28 : New w2 w8 := (Chg.trans n7.any c8 fun _ _ e => e).toNew fun k hk e => by omega
        have n08 := New.trans n12 n28
        have hz8 := n28.size
        have o8 := (o7.chg (plain_one _) c8 fun k hk e => hnb (e ▸ hk)).rd goodVs.mo
        have hrd8 : RdS (one vs) 1 (fun k => w.heap.size < k) w8 (.slice ua xs.length uc) xs := o8.mono (mono_one _) fun k _ e => by
          rcases e with e | e
          · omega
          · exact e.elim
        have b28 := b2.chg n28 fun e => e
        (repeat' (first | refine Qseq.normal ?_ | refine Wc.seq ?_ | refine Wc.region ?_))
        refine Wl.loadB b8 rfl rfl ?_
        refine Wl.call (May_spec hrd8 (hE.new n08) (ht.new n08) (by omega) fun y hy => by have := hlens y (List.mem_cons_of_mem _ hy); omega) rfl ?_
        rintro _ w9 ⟨rfl, n9⟩
        have b29 := b28.chg n9 fun e => e
        have b89 := b8.chg n9 fun e => e
        have n09 := New.trans n08 n9
        have hrd9 := hrd8.keep (stable_one _) n9.keep
        cases hm : mayM x xs
        · rw [hm] at hpm
          rw [show parseM s = none from hpm]
          (repeat' (first | refine Wl.nil ?_ | refine Wl.notB rfl ?_ | refine Qseq.normal ?_ | refine Wc.seq ?_ | refine Wc.region ?_ | refine Wc.condT rfl ?_))
          refine Wl.buildG rfl run_buildR0 ?_
          refine Wl.storeB (u := .agg #[vs [], .slice none 0 0]) (new := [vs [], .slice none 0 0]) b29 rfl rfl rfl rfl (Nat.le_refl 2) cells2 fun w10 b10 c10 s10 => ?_
          replace b10 : Bk w10 w.heap.size 24 [vs [], .slice none 0 0] := b10
          (repeat' (first | refine Wl.assignE (by conv => { lhs; whnf }) ?_ | refine Wl.nil ?_ | refine Qseq.normal ?_ | refine Wc.ret ?_ | refine Qseq.ret ?_))
          exact Qfn.retR (results2 (a := .cell 2 24) (b := .tmp 3) rfl (rvOf_agg rfl rfl b10 rfl) (rvOf_tmp rfl)) ⟨_, rfl, rfl, (Chg.trans n09.any c10 fun _ _ e => e).toNew fun k hk e => by omega⟩
        · rw [hm] at hpm
          rw [show parseM s = some (x, xs) from hpm]
          (repeat' (first | refine Wl.nil ?_ | refine Wl.notB rfl ?_ | refine Qseq.normal ?_ | refine Wc.seq ?_ | refine Wc.region ?_ | refine Wc.skip ?_ | refine Wc.condF rfl ?_))
          refine Wl.loadB b89 rfl rfl ?_
          refine Wl.storeB (u := .agg #[vs x, .slice ua xs.length uc]) (new := [vs x, .slice ua xs.length uc]) b29 rfl rfl rfl rfl (Nat.le_refl 2) cells2 fun w10 b10 c10 s10 => ?_
          replace b10 : Bk w10 w.heap.size 24 [vs x, .slice ua xs.length uc] := b10
          (repeat' (first | refine Wl.assignE (by conv => { lhs; whnf }) ?_ | refine Wl.nil ?_ | refine Qseq.normal ?_ | refine Wc.ret ?_))
          refine Qfn.retR (results2 (a := .cell 2 24) (b := .tmp 3) rfl (rvOf_agg rfl rfl b10 rfl) (rvOf_tmp rfl)) ⟨_, rfl, ⟨_, rfl, ?_⟩, (Chg.trans n09.any c10 fun _ _ e => e).toNew fun k hk e => by omega⟩
          exact (hrd9.keep (stable_one _) (c10.keep fun k _ hk e => by omega)).mono (mono_one _) fun k _ e => by omega
      · refine Wg.two rfl rfl rfl rfl rfl rfl rfl rfl
          (Wl.buildSlice0 (R := one vs) (Pe := NoB) fun v4 w4 o4 m4 => Wl.nil ⟨rfl, New.trans n3 m4, ?_⟩)
          (Wl.alloc fun w4 b4 m4 s4 => Wl.nil ⟨rfl, New.trans n3 m4, ?_⟩)
        · have n34 := New.trans n3 m4
          refine Wg.two rfl rfl rfl rfl rfl rfl rfl rfl
            (Wl.appendAll (R := one vs) goodVs o4 (hak _ n34) (fun y cs hy => hy) rfl rfl (by omega) (by simp only [maxLen, List.length_nil]; omega) (by simp only [List.length_nil]; omega) fun v5 w5 o5 c5 lie5 _ => Wl.nil ⟨rfl, (Chg.trans n34.any c5 fun _ _ e => e).toNew (fun k hk e => by have := (o4.lt e).1; omega), ?_⟩)
            (Wl.alloc fun w5 b5 m5 s5 => Wl.nil ⟨rfl, New.trans n34 m5, ?_⟩)
          · have n35 : New w2 w5 := (Chg.trans n34.any c5 fun _ _ e => e).toNew fun k hk e => by have := (o4.lt e).1; omega
            obtain ⟨ua, uc, rfl, _, _⟩ := o5.form
            have hz4 := n34.size
            have hz5 := n35.size
            have hlo : ∀ k, (Value.slice ua ([] ++ xs).length uc).ownBlock = some k → w2.heap.size ≤ k ∧ k < w5.heap.size := fun k hk => by
              have := o5.lt hk
              rcases this.1 with e | e <;> exact ⟨by omega, this.2⟩
            refine Wg.two rfl rfl rfl rfl rfl rfl rfl rfl
              (Wl.buildG rfl (run_buildR (x := x)) (Wl.nil ⟨rfl, n35, ?_⟩))
              (Wl.alloc fun w6 b6 m6 s6 => Wl.nil ⟨rfl, New.trans n35 m6, ?_⟩)
            · refine Wg.one rfl rfl rfl rfl rfl (Wl.alloc fun w6 b6 m6 s6 => Wl.nil ⟨rfl, New.trans n35 m6, K _ _ ⟨ua, uc, _, ⟨rfl, rfl, rfl, rfl, trivial⟩, New.trans n35 m6, (o5.new (plain_one _) m6).reblk fun k hk _ => (hlo k hk).1, (by exact b6), hz5, fun e => by have := (hlo _ e).2; omega⟩⟩)
            · have n36 := New.trans n35 m6
              refine Wg.one rfl rfl rfl rfl rfl (Wl.buildG rfl (run_buildR (x := x)) (Wl.nil ⟨rfl, n36, K _ _ ⟨ua, uc, _, ⟨rfl, rfl, rfl, rfl, trivial⟩, n36, (o5.new (plain_one _) m6).reblk fun k hk _ => (hlo k hk).1, b6, hz5, fun e => by have := (hlo _ e).2; omega⟩⟩))
          · have n35 := New.trans n34 m5
            have o4' := o4.new (plain_one _) m5
            have hz4 := n34.size
            refine Wg.one rfl rfl rfl rfl rfl (Wl.appendAll (R := one vs) goodVs o4' (hak _ n35) (fun y cs hy => hy) rfl rfl (by omega) (by simp only [maxLen, List.length_nil]; omega) (by simp only [List.length_nil]; omega) fun v6 w6 o6 c6 lie6 _ => Wl.nil ⟨rfl, (Chg.trans n35.any c6 fun _ _ e => e).toNew (fun k hk e => by have := (o4'.lt e).1; omega), ?_⟩)
            have n36 : New w2 w6 := (Chg.trans n35.any c6 fun _ _ e => e).toNew fun k hk e => by have := (o4'.lt e).1; omega
            have hz5 := n35.size
            have hz6 := n36.size
            have b56 := b5.chg c6 fun e => by have := (o4.lt e).2; omega
            obtain ⟨ua, uc, rfl, _, _⟩ := o6.form
            have hlo : ∀ k, (Value.slice ua ([] ++ xs).length uc).ownBlock = some k → w2.heap.size ≤ k ∧ k ≠ w4.heap.size := fun k hk => by
              refine ⟨by rcases (o6.lt hk).1 with e | e <;> omega, fun e => ?_⟩
              rcases lie6 with e' | e'
              · have := (o4.lt (e' ▸ hk)).2; omega
              · have := e' k hk; omega
            refine Wg.one rfl rfl rfl rfl rfl (Wl.buildG rfl (run_buildR (x := x)) (Wl.nil ⟨rfl, n36, K _ _ ⟨ua, uc, _, ⟨rfl, rfl, rfl, rfl, trivial⟩, n36, o6.reblk fun k hk _ => (hlo k hk).1, b56, hz4, fun e => (hlo _ e).2 rfl⟩⟩))
        · have n34 := New.trans n3 m4
          refine Wg.one rfl rfl rfl rfl rfl (Wl.buildSlice0 (R := one vs) (Pe := NoB) fun v5 w5 o5 m5 => Wl.nil ⟨rfl, New.trans n34 m5, ?_⟩)
          have n35 := New.trans n34 m5
          refine Wg.one rfl rfl rfl rfl rfl (Wl.appendAll (R := one vs) goodVs o5 (hak _ n35) (fun y cs hy => hy) rfl rfl (by omega) (by simp only [maxLen, List.length_nil]; omega) (by simp only [List.length_nil]; omega) fun v6 w6 o6 c6 lie6 _ => Wl.nil ⟨rfl, (Chg.trans n35.any c6 fun _ _ e => e).toNew (fun k hk e => by have := (o5.lt e).1; omega), ?_⟩)
          have n36 : New w2 w6 := (Chg.trans n35.any c6 fun _ _ e => e).toNew fun k hk e => by have := (o5.lt e).1; have := n34.size; omega
          have hz4 := n34.size
          have hz5 := n35.size
          have b46 := (b4.chg m5 fun e => e).chg c6 fun e => by have := (o5.lt e).1; omega
          obtain ⟨ua, uc, rfl, _, _⟩ := o6.form
          have hlo : ∀ k, (Value.slice ua ([] ++ xs).length uc).ownBlock = some k → w2.heap.size ≤ k ∧ k ≠ w3.heap.size := fun k hk => by
            have hw4 := m4.size
            have hw5 := m5.size
            rcases (o6.lt hk).1 with e | e
            · exact ⟨by omega, by omega⟩
            · exact ⟨by omega, by omega⟩
          refine Wg.one rfl rfl rfl rfl rfl (Wl.buildG rfl (run_buildR (x := x)) (Wl.nil ⟨rfl, n36, K _ _ ⟨ua, uc, _, ⟨rfl, rfl, rfl, rfl, trivial⟩, n36, o6.reblk fun k hk _ => (hlo k hk).1, b46, hz3, fun e => (hlo _ e).2 rfl⟩⟩))
end Go.Proofs.YtpnpllghabbhlaaGreatDoor

namespace Go.Proofs.YtpnpllghabbhlaaGreatDoor
open Go Wk
open Go.RowKit (Below)
attribute [local irreducible] Go.Calls

/-- A list of n texts in a row of one's own, whatever they are. -/
def TlW (Pb : Nat → Prop) (w : World) (v : Value) (n : Nat) : Prop :=
  (v = .slice none 0 0 ∧ n = 0) ∨ ∃ g off cap cur, v = .slice (some ⟨g, off, none⟩) n cap ∧ Pb g ∧ w.heap[g]? = some (.cells cur tStr (0, 0)) ∧ n ≤ cap ∧ cap ≤ maxLen ∧ off + cap ≤ cur.size
theorem ArgS.tl {Pb : Nat → Prop} {w : World} {v : Value} {xs : List (List UInt8)} (h : ArgS Pb w v xs) : TlW Pb w v xs.length := by
  obtain ⟨g, off, cap, cur, hv, hb, hg, h1, h2, h3, _⟩ := h
  exact .inr ⟨g, off, cap, cur, hv, hb, hg, h1, h2, h3⟩
theorem TlW.mono {Pb Pb' : Nat → Prop} {w : World} {v : Value} {n : Nat} (h : TlW Pb w v n) (hP : ∀ k, k < w.heap.size → Pb k → Pb' k) : TlW Pb' w v n := by
  rcases h with h | ⟨g, off, cap, cur, hv, hb, hg, r⟩
  · exact .inl h
  · exact .inr ⟨g, off, cap, cur, hv, hP g (heap_lt hg) hb, hg, r⟩
theorem TlW.keep {Pb : Nat → Prop} {w w' : World} {v : Value} {n : Nat} (h : TlW Pb w v n) (hk : Keep Pb w w') : TlW Pb w' v n := by
  rcases h with h | ⟨g, off, cap, cur, hv, hb, hg, r⟩
  · exact .inl h
  · exact .inr ⟨g, off, cap, cur, hv, hb, (hk g hb (heap_lt hg)).trans hg, r⟩
theorem TlW.form {Pb : Nat → Prop} {w : World} {v : Value} {n : Nat} (h : TlW Pb w v n) : ∃ a cap, v = .slice a n cap ∧ n ≤ cap ∧ cap ≤ maxLen := by
  rcases h with ⟨rfl, rfl⟩ | ⟨g, off, cap, cur, hv, hb, hg, h1, h2, _⟩
  · exact ⟨none, 0, rfl, Nat.le_refl _, Nat.zero_le _⟩
  · exact ⟨_, cap, hv, h1, h2⟩
section
variable {P : Program} {n : Nat} {ds : List Deferred} {Q : Po} {F : Fr} {w : World} {ops rest : List Oper} {d : Nat} {ty : TypeId} {pos : String} {aft : Array Edge}
theorem run_append_off (t ty e : TypeId) (i : TypeInfo) (ht : P.underlying t = some (.slice e)) (hi : P.info? e = some i) (h1s : i.size = 1) (g off sLen sCap : Nat) (cur : Array Value) (hg : w.heap[g]? = some (.cells cur e (0, 0)))
    (a : Addr) (c : Nat) (y : Value) (hnews : w.cell? a = some y) (h1 : y.oneCell' = true) (hroom : sLen + 1 ≤ sCap) (hfit : off + sLen + 1 ≤ cur.size) :
    (Builtin.append_ #[t, t] ty #[.slice (some ⟨g, off, none⟩) sLen sCap, .slice (some a) 1 c]).run P w = .ok (.slice (some ⟨g, off, none⟩) (sLen + 1) sCap) (w.setRow g (cur.toList.take (off + sLen) ++ [y] ++ cur.toList.drop (off + sLen + 1)).toArray) := by
  have hn : ∀ (j : Nat) (u : Value), [y][j]? = some u → w.cell? (a.add j) = some u := by
    intro j u hu
    cases j with
    | zero =>
      simp at hu
      subst hu
      have : a.add 0 = a := by cases a; simp [Addr.add]
      rw [this]; exact hnews
    | succ j => simp at hu
  have hf := run_firstCells_some (P := P) w i.size 1 a 1 c [y] (by simp [h1s]) hn
  have hst := run_storeCells_at P g (off + sLen) e [y] 0 cur w hg (by simpa using hfit) (by intro q hq; rw [List.mem_singleton.1 hq]; exact h1)
  simp only [Nat.add_zero] at hst
  rw [h1s] at hf
  simp [Builtin.append_, run_underlying ht, sizeOf, typeInfo, hi, Builtin.lenOf, hroom, hf, addr_add, h1s]
  rw [hst]
  simp
/-- append to such a list. -/
theorem run_append_tl {t ty : TypeId} {bytes : Nat} {agg : Bool} {z : Value} (ht : P.underlying t = some (.slice tStr)) (he : ElT P tStr 1 bytes agg z) {Pb Pr : Nat → Prop} {v u : Value} {m : Nat} {y : List UInt8} (h : TlW Pb w v m) (hy : RdS (one vs) 1 Pr w u [y]) (hm : m ≤ 3000000) (hby : (m + 1) * bytes ≤ 140737488355328) :
    ∃ v' w', (Builtin.append_ #[t, t] ty #[v, u]).run P w = .ok v' w' ∧ TlW (fun k => Pb k ∨ w.heap.size ≤ k) w' v' (m + 1) ∧ Chg Pb w w' := by
  obtain ⟨i, hi, hsz, hby', hz⟩ := he.inf
  have hzc := he.hz
  obtain ⟨b2, off2, cap2, rfl, _, cs, hcl, hR, hat⟩ := hy.cells (i := 0) (x := y) rfl
  obtain rfl : cs = [vs y] := hR
  have hcell := hat 0 (vs y) rfl
  simp only [Nat.zero_mul, Nat.add_zero] at hcell
  have hn : ∀ (j : Nat) (u : Value), [vs y][j]? = some u → w.cell? ((⟨b2, off2, none⟩ : Addr).add j) = some u := by
    intro j u hu
    rw [addr_add]
    cases j with
    | zero => simp at hu; subst hu; exact hcell
    | succ j => simp at hu
  have chg : ∀ M o, Chg M w (w.drew.alloc o) := fun M o => ⟨rfl, rfl, rfl, by simp, fun k hk _ => World.heap_old w.drew o hk⟩
  have grown : ∀ old : Nat, old < m + 1 → m + 1 ≤ grownCap w (m + 1) old tStr ∧ grownCap w (m + 1) old tStr ≤ maxLen := fun old ho =>
    ⟨grownCap_ge w (m + 1) old tStr, grownCap_le_maxLen w (m + 1) old tStr (by unfold maxLen; omega)⟩
  rcases h with ⟨rfl, rfl⟩ | ⟨g, off, cap, cur, rfl, hb, hg, h1, h2, h3⟩
  · have hr := run_append_nil (P := P) w t ty tStr i z ht hi hz ⟨b2, off2, none⟩ 1 cap2 [vs y] (by simp [hsz]) hn (by omega) (by omega) (by rw [hby']; simp only [Nat.zero_add] at hby; omega)
    obtain ⟨g1, g2⟩ := grown 0 (by omega)
    simp only [Nat.zero_add] at g1 g2 ⊢
    refine ⟨_, _, hr, .inr ⟨w.heap.size, 0, _, _, rfl, .inr (Nat.le_refl _), heap_alloc_new w.drew _, g1, g2, ?_⟩, chg _ _⟩
    simp only [Array.size_append, List.size_toArray, size_zeroCells, List.length_singleton, hzc, Nat.mul_one]
    omega
  · by_cases hroom : m + 1 ≤ cap
    · have hr := run_append_off (P := P) (ty := ty) (w := w) t tStr i ht hi hsz g off m cap cur hg ⟨b2, off2, none⟩ cap2 (vs y) hcell rfl hroom (by omega)
      refine ⟨_, _, hr, .inr ⟨g, off, cap, _, rfl, .inl hb, setRow_heap w g cur _ tStr _ hg, hroom, h2, ?_⟩, Chg.setRow hb⟩
      simp only [List.size_toArray, List.length_append, List.length_take, List.length_drop, Array.length_toList, List.length_singleton]
      omega
    · have holds : ∀ (j : Nat) (u : Value), ((cur.toList.drop off).take m)[j]? = some u → w.cell? ((⟨g, off, none⟩ : Addr).add j) = some u := by
        intro j u hu
        rw [addr_add]
        simp only [World.cell?, hg]
        rw [List.getElem?_take] at hu
        split at hu
        · rw [List.getElem?_drop] at hu
          simpa using hu
        · cases hu
      have hol : ((cur.toList.drop off).take m).length = m * i.size := by
        rw [hsz, List.length_take, List.length_drop, Array.length_toList]; omega
      obtain ⟨g1, g2⟩ := grown cap (by omega)
      have hr := run_append_grow (P := P) w t ty tStr i z ht hi hz ⟨g, off, none⟩ m cap _ hol holds ⟨b2, off2, none⟩ 1 cap2 [vs y] (by simp [hsz]) hn (by omega) (by omega) (by rw [hby']; exact growslice_fits (by omega) hby)
      refine ⟨_, _, hr, .inr ⟨w.heap.size, 0, _, _, rfl, .inr (Nat.le_refl _), heap_alloc_new w.drew _, g1, g2, ?_⟩, chg _ _⟩
      simp only [Array.size_append, List.size_toArray, size_zeroCells, List.length_singleton, hzc, Nat.mul_one, hol, hsz]
      omega
theorem Wk.Wl.appendTl {t : TypeId} {bytes : Nat} {agg : Bool} {z : Value} {x s : Operand} [ht : Und P t (.slice tStr)] [he : ElT P tStr 1 bytes agg z] {Pb Pr : Nat → Prop} {v u : Value} {m : Nat} {y : List UInt8} (h : TlW Pb w v m) (hy : RdS (one vs) 1 Pr w u [y]) (hs : ev n F s = v) (hx : ev n F x = u) (hm : m ≤ 3000000) (hby : (m + 1) * bytes ≤ 140737488355328)
    (c : ∀ v' w', TlW (fun k => Pb k ∨ w.heap.size ≤ k) w' v' (m + 1) → Chg Pb w w' → Wl P n ds Q ops rest (upd F d v') w') :
    Wl P n ds Q ops (⟨some d, .call { callee := .builtin .append, args := #[s, x], argTypes := #[t, t] }, ty, pos, aft, none⟩ :: rest) F w := by
  obtain ⟨v', w', hr, h1, h2⟩ := run_append_tl (ty := ty) ht.h he h hy hm hby
  refine Wl.val (w' := w') ?_ (c v' w' h1 h2)
  simp only [execOp, resolve, invoke, builtin, Sem.run_bind, Sem.run_pure, Result.andThen_ok, List.map_toArray, List.map_cons, List.map_nil, hs, hx, hr]
end
end Go.Proofs.YtpnpllghabbhlaaGreatDoor

namespace Go.Proofs.YtpnpllghabbhlaaGreatDoor
open Go Wk
open Go.RowKit (Below)
attribute [local irreducible] Go.Calls

section
variable {P : Program} {n : Nat} {ds : List Deferred} {C : World → Prop} {K : Fr → Prop} {F : Fr} {ops rest : List Oper} {d : Nat} {ty : TypeId} {pos : String} {aft : Array Edge}
theorem Wk.Wq.sliceToP {x hi : Operand} {t e sz bytes : Nat} {agg : Bool} {z : Value} {k : IntKind} {p : Option Addr} {l cap b : Nat} [ht : Und P t (.slice e)] [he : ElT P e sz bytes agg z] (hx : ev n F x = .slice p l cap) (hh : ev n F hi = .int k b) (h1 : b ≤ cap)
    (c : Wq P n ds C K ops rest (upd F d (.slice p b cap))) : Wq P n ds C K ops (⟨some d, .slice t x none (some hi) none, ty, pos, aft, none⟩ :: rest) F := by
  refine Wq.val (fun w _ => ?_) c
  have := run_sliceS (P := P) (w := w) (p := p) (l := l) (lo := none) (hi := some (.int k b)) (a := 0) (b := b) ht.h he (.inl ⟨rfl, rfl⟩) (.inr ⟨k, rfl⟩) (Nat.zero_le _) h1
  have hp : (if cap = 0 then p else p.map (·.add (0 * sz))) = p := by
    split
    · rfl
    · cases p with
      | none => rfl
      | some a => cases a; simp [Addr.add]
  rw [hp, Nat.sub_zero, Nat.sub_zero] at this
  simp only [execOp, hx, hh, Option.map_none, Option.map_some, Sem.run_bind, this, Result.andThen_ok, Sem.run_pure]
end
/-- An order's arguments, as Parse hands them out. -/
def ArgT (Pb : Nat → Prop) (w : World) (v : Value) (xs : List (List UInt8)) : Prop := (v = .slice none 0 0 ∧ xs = []) ∨ ArgS Pb w v xs
theorem ArgT.rd {Pb : Nat → Prop} {w : World} {v : Value} {xs : List (List UInt8)} (h : ArgT Pb w v xs) : RdS (one vs) 1 Pb w v xs := by
  rcases h with ⟨rfl, rfl⟩ | h
  · exact RdS.nil
  · exact h.rd
theorem ArgT.tl {Pb : Nat → Prop} {w : World} {v : Value} {xs : List (List UInt8)} (h : ArgT Pb w v xs) : TlW Pb w v xs.length := by
  rcases h with ⟨rfl, rfl⟩ | h
  · exact .inl ⟨rfl, rfl⟩
  · exact h.tl
theorem ArgT.keep {Pb : Nat → Prop} {w w' : World} {v : Value} {xs : List (List UInt8)} (h : ArgT Pb w v xs) (hk : Keep Pb w w') : ArgT Pb w' v xs := h.imp id fun h => h.keep hk
theorem ArgT.mono {Pb Pb' : Nat → Prop} {w : World} {v : Value} {xs : List (List UInt8)} (h : ArgT Pb w v xs) (hP : ∀ b, b < w.heap.size → Pb b → Pb' b) : ArgT Pb' w v xs := h.imp id fun h => h.mono hP
theorem ArgT.one {Pb : Nat → Prop} {w : World} {v : Value} {xs : List (List UInt8)} (h : ArgT Pb w v xs) : ∃ a c, v = .slice a xs.length c := by
  obtain ⟨a, c, h, _⟩ := h.rd.form; exact ⟨a, c, h⟩
def pxM (s : List UInt8) : List UInt8 × List (List UInt8) := (parseM s).getD ([], [])
def peM (s : List UInt8) : Int := if (parseM s).isSome = true then 0 else 4
theorem ordR_of {lo : Nat} {w : World} {s : List UInt8} {r : Value} (h : OrdR lo w s r) : ∃ u, r = .tuple #[.agg #[vs (pxM s).1, u], vi (peM s)] ∧ ArgT (fun k => lo ≤ k) w u (pxM s).2 := by
  unfold OrdR at h
  unfold pxM peM
  cases hp : parseM s with
  | none => rw [hp] at h; exact ⟨_, h, .inl ⟨rfl, rfl⟩⟩
  | some p => rw [hp] at h; obtain ⟨u, h1, h2⟩ := h; exact ⟨u, h1, .inr h2⟩
theorem ordRR_of {lo : Nat} {w : World} {s : List UInt8} {r : Value} (h : OrdRR lo w s r) : ∃ u, r = .tuple #[.agg #[vs (pxM s).1, u], vi (peM s)] ∧ RdS (one vs) 1 (fun k => lo ≤ k) w u (pxM s).2 := by
  unfold OrdRR at h
  unfold pxM peM
  cases hp : parseM s with
  | none => rw [hp] at h; exact ⟨_, h, RdS.nil⟩
  | some p => rw [hp] at h; obtain ⟨u, h1, h2⟩ := h; exact ⟨u, h1, h2⟩
theorem pxM_small {s : List UInt8} : (pxM s).2.length ≤ 1048577 := by
  unfold pxM
  cases hp : parseM s with
  | none => exact Nat.zero_le _
  | some p =>
    unfold parseM at hp
    split at hp
    · rename_i hs
      cases hu : unlineW s with
      | none => rw [hu] at hp; cases hp
      | some l =>
        rw [hu] at hp
        cases l with
        | nil => cases hp
        | cons x xs =>
          dsimp only at hp
          split at hp
          · cases hp
            have h1 := unline_line hu
            have : ∀ l : List (List UInt8), l.length ≤ (lineW l).length + 1 := fun l => by
              induction l with
              | nil => exact Nat.zero_le _
              | cons a l ih =>
                cases l with
                | nil => simp
                | cons b l =>
                  show _ ≤ (wordW a ++ 32 :: lineW (b :: l)).length + 1
                  rw [List.length_append]
                  simp only [List.length_cons] at ih ⊢
                  omega
            have h2 := this (x :: xs)
            rw [h1, List.length_cons] at h2
            show xs.length ≤ _
            omega
          · cases hp
    · cases hp
set_option maxHeartbeats 8000000 in
theorem parses_law {Pb : Nat → Prop} {w : World} {s x : List UInt8} {u : Value} {xs : List (List UInt8)} (hT : Tb w) (hE : ErrV w) (hs : s.length ≤ 1048576) (hu : RdS (one vs) 1 Pb w u xs) (hO : OrdIn x xs) :
    Calls Tryz.prog 3 #[vs s, .agg #[vs x, u]] w (Ret fun r w' => r = .bool true ∧ New w w') := by
  obtain ⟨a, cp, rfl, hc1, hc2⟩ := hu.form
  have hx2 := hO.h2
  have hps := pxM_small (s := s)
  replace hu := hu.mono (Pb' := fun k => k < w.heap.size) (mono_one _) fun k hk _ => hk
  refine calls_of_Wc Tryz.func3 rfl Tryz.ntmps3 rfl ?_
  (repeat' (first | refine Wc.seq ?_ | refine Wc.region ?_))
  refine Wl.box rfl fun w1 b1 n1 s1 => ?_
  replace b1 : Bk w1 w.heap.size 24 [vs x, .slice a xs.length cp] := b1
  (repeat' (first | refine Wl.moveE (by conv => { lhs; whnf }) ?_ | refine Wl.assignE (by conv => { lhs; whnf }) ?_ | refine Wl.nil ?_ | refine Qseq.normal ?_ | refine Wc.seq ?_ | refine Wc.region ?_))
  refine Wl.call (ParseR_spec (s := s) (by omega) (hE.new n1) (hT.new n1)) rfl ?_
  rintro r w2 ⟨hr, n2⟩
  obtain ⟨u0, rfl, hu0⟩ := ordRR_of hr
  obtain ⟨a0, cp0, rfl, _, _⟩ := hu0.form
  replace hu0 := hu0.mono (mono_one _) (Pb' := fun k => w1.heap.size ≤ k ∧ k < w2.heap.size) fun k hk e => ⟨e, hk⟩
  have n02 := New.trans n1 n2
  have hz1 := n1.size
  have hz2 := n2.size
  (repeat' (first | refine Wl.moveE (by conv => { lhs; whnf }) ?_ | refine Wl.extract rfl rfl ?_))
  refine Wl.alloc fun w3 b3 n3 s3 => ?_
  refine Wl.storeB (u := .agg #[vs (pxM s).1, .slice a0 (pxM s).2.length cp0]) (new := [vs (pxM s).1, .slice a0 (pxM s).2.length cp0]) b3 rfl rfl rfl rfl (Nat.le_refl 2) cells2 fun w4 b4 c4 s4 => ?_
  replace b4 : Bk w4 w2.heap.size 24 [vs (pxM s).1, .slice a0 (pxM s).2.length cp0] := b4
  have n24 : New w2 w4 := (Chg.trans n3.any c4 fun _ _ e => e).toNew fun k hk e => by omega
  have n04 := New.trans n02 n24
  have hu4 := hu0.keep (stable_one _) n24.keep
  have hz4 := n24.size
  clear b3 n3 c4 hu0 hr
  (repeat' (first | refine Wl.moveE (by conv => { lhs; whnf }) ?_ | refine Wl.assignE (by conv => { lhs; whnf }) ?_ | refine Wl.nil ?_ | refine Qseq.normal ?_ | refine Wc.seq ?_ | refine Wc.region ?_))
  refine Wl.call (Parse_spec' (s := s) (hE.new n04) (hT.new n04)) rfl ?_
  rintro r w5 ⟨hr, n5⟩
  obtain ⟨u1, rfl, hu1⟩ := ordR_of hr
  obtain ⟨a1, cp1, rfl⟩ := hu1.one
  have hz5 := n5.size
  replace hu1 := hu1.mono (Pb' := fun k => w4.heap.size ≤ k ∧ k < w5.heap.size) fun k hk e => ⟨e, hk⟩
  (repeat' (first | refine Wl.moveE (by conv => { lhs; whnf }) ?_ | refine Wl.extract rfl rfl ?_))
  refine Wl.alloc fun w6 b6 n6 s6 => ?_
  refine Wl.storeB (u := .agg #[vs (pxM s).1, .slice a1 (pxM s).2.length cp1]) (new := [vs (pxM s).1, .slice a1 (pxM s).2.length cp1]) b6 rfl rfl rfl rfl (Nat.le_refl 2) cells2 fun w7 b7 c7 s7 => ?_
  replace b7 : Bk w7 w5.heap.size 28 [vs (pxM s).1, .slice a1 (pxM s).2.length cp1] := b7
  have n57 : New w5 w7 := (Chg.trans n6.any c7 fun _ _ e => e).toNew fun k hk e => by omega
  have n07 := New.trans n04 (New.trans n5 n57)
  have hu17 := hu1.keep n57.keep
  have hz7 := n57.size
  clear b6 n6 c7 hr
  (repeat' (first | refine Wl.moveE (by conv => { lhs; whnf }) ?_ | refine Wl.assignE (by conv => { lhs; whnf }) ?_ | refine Wl.nil ?_ | refine Qseq.normal ?_ | refine Wc.seq ?_ | refine Wc.region ?_))
  refine Wl.call (Parse_spec' (s := s) (hE.new n07) (hT.new n07)) rfl ?_
  rintro r w8 ⟨hr, n8⟩
  obtain ⟨u2, rfl, hu2⟩ := ordR_of hr
  obtain ⟨a2, cp2, rfl⟩ := hu2.one
  replace hu2 := hu2.mono (Pb' := fun k => w7.heap.size ≤ k ∧ k < w8.heap.size) fun k hk e => ⟨e, hk⟩
  have hz8 := n8.size
  (repeat' (first | refine Wl.moveE (by conv => { lhs; whnf }) ?_ | refine Wl.extract rfl rfl ?_))
  refine Wl.alloc fun w9 b9 n9 s9 => ?_
  refine Wl.storeB (u := .agg #[vs (pxM s).1, .slice a2 (pxM s).2.length cp2]) (new := [vs (pxM s).1, .slice a2 (pxM s).2.length cp2]) b9 rfl rfl rfl rfl (Nat.le_refl 2) cells2 fun w10 b10 c10 s10 => ?_
  replace b10 : Bk w10 w8.heap.size 28 [vs (pxM s).1, .slice a2 (pxM s).2.length cp2] := b10
  have n810 : New w8 w10 := (Chg.trans n9.any c10 fun _ _ e => e).toNew fun k hk e => by omega
  have n010 := New.trans n07 (New.trans n8 n810)
  have hu210 := hu2.keep n810.keep
  have hz10 := n810.size
  clear b9 n9 c10 hr
  have n710 := New.trans n8 n810
  have n410 := New.trans (New.trans n5 n57) n710
  replace b1 := b1.chg (New.trans n2 (New.trans n24 n410)) fun e => e
  replace b4 := b4.chg n410 fun e => e
  replace b7 := b7.chg n710 fun e => e
  replace hu4 := hu4.keep (stable_one _) n410.keep
  have hu110 := hu17.keep n710.keep
  have hu10 := hu.keep (stable_one _) n010.keep
  generalize (pxM s).1 = X at *
  generalize (pxM s).2 = XS at *
  generalize peM s = E at *
  -- MARK

  have hz8b := b10.lt
  have hz5b := b7.lt
  have hz2b := b4.lt
  (repeat' (first | refine Wl.assignE (by conv => { lhs; whnf }) ?_ | refine Wl.nil ?_ | refine Qseq.normal ?_))
  refine Wc.cutR (fun F W => agrees F [(3, .pointer (some ⟨w.heap.size, 0, none⟩)), (5, .pointer (some ⟨w2.heap.size, 0, none⟩)), (7, .pointer (some ⟨w5.heap.size, 0, none⟩)), (9, .pointer (some ⟨w8.heap.size, 0, none⟩))] ∧ New w10 W) ?_ ?_
  · refine Wc.seq ?_
    refine Wc.regionT rfl (by kernel_rfl) (fun w' => New w10 w') (Chg.drew _ _) ?_
    intro w11 n11
    (repeat' (first | refine Wt.guardY rfl rfl ?_ | refine Wt.quiet rfl (Wq.moveE (by conv => { lhs; whnf }) (Wq.nil ?_)) | refine Wt.quiet rfl (Wq.pickFE rfl (by conv => { lhs; whnf }) (Wq.nil ?_)) | (refine Wt.quiet rfl (Wq.neq rfl rfl (fun _ => Wq.nil ?_) (fun _ => Wq.nil ?_)) <;> (first | (exfalso; omega) | skip))))
    refine Wt.quiet rfl (Wq.loadAt (fun w' n => (b7.chg n fun e => e).at) rfl rfl (Wq.nil ?_))
    (repeat' (refine Wt.guardY rfl rfl ?_))
    refine Wt.chain rfl (Wl.call (back_spec (x := X) (hu110.rd.keep (stable_one _) n11.keep) (by omega)) rfl ?_)
    rintro _ w12 ⟨⟨v, rfl, o12⟩, n12⟩
    have n112 := New.trans n11 n12
    refine Wl.nil ⟨rfl, n112, ?_⟩
    (repeat' (refine Wt.guardY rfl rfl ?_))
    refine Wt.quiet rfl (Wq.loadAt (fun w' n => (b4.chg n fun e => e).at) rfl rfl (Wq.nil ?_))
    (repeat' (refine Wt.guardY rfl rfl ?_))
    refine Wt.chain rfl (Wl.call (Same_spec (a := X) (b := X) (o12.rd goodVs.mo) (hu4.keep (stable_one _) n112.keep)) rfl ?_)
    rintro _ w13 ⟨rfl, n13⟩
    rw [decide_eq_true ⟨rfl, rfl⟩]
    have n113 := New.trans n112 n13
    refine Wl.nil ⟨rfl, n113, ?_⟩
    clear o12
    (repeat' (first | refine Wt.guardY rfl rfl ?_ | refine Wt.quiet rfl (Wq.moveE (by conv => { lhs; whnf }) (Wq.nil ?_)) | refine Wt.quiet rfl (Wq.pickFE rfl (by conv => { lhs; whnf }) (Wq.nil ?_)) | refine Wt.quiet rfl (Wq.notB rfl (Wq.nil ?_))))
    refine Wt.quiet rfl (Wq.loadAt (fun w' n => (b10.chg n fun e => e).at) rfl rfl (Wq.nil ?_))
    (repeat' (refine Wt.guardY rfl rfl ?_))
    refine Wt.chain rfl (Wl.call (back_spec (x := X) (hu210.rd.keep (stable_one _) n113.keep) (by omega)) rfl ?_)
    rintro _ w14 ⟨⟨v', rfl, o14⟩, n14⟩
    have n114 := New.trans n113 n14
    refine Wl.nil ⟨rfl, n114, ?_⟩
    (repeat' (refine Wt.guardY rfl rfl ?_))
    refine Wt.quiet rfl (Wq.loadAt (fun w' n => (b4.chg n fun e => e).at) rfl rfl (Wq.nil ?_))
    (repeat' (refine Wt.guardY rfl rfl ?_))
    refine Wt.chain rfl (Wl.call (Same_spec (a := X) (b := X) (o14.rd goodVs.mo) (hu4.keep (stable_one _) n114.keep)) rfl ?_)
    rintro _ w15 ⟨rfl, n15⟩
    rw [decide_eq_true ⟨rfl, rfl⟩]
    have n115 := New.trans n114 n15
    refine Wl.nil ⟨rfl, n115, ?_⟩
    clear o14
    (repeat' (first | refine Wt.nil ?_ | refine Wt.guardY rfl rfl ?_ | refine Wt.quiet rfl (Wq.pickFE rfl (by conv => { lhs; whnf }) (Wq.nil ?_)) | refine Wt.quiet rfl (Wq.notB rfl (Wq.nil ?_))))
    (repeat' (first | refine Qseq.normal ?_ | refine Wc.skip ?_ | refine Wc.condF rfl ?_))
    exact Qm.normal ⟨⟨rfl, rfl, rfl, rfl, trivial⟩, n115⟩
  rintro F W1 ⟨ag, nW⟩
  refine Wc.frame _ ag fun G => ?_
  clear ag
  simp only [upds]
  replace b1 := b1.chg nW fun e => e
  replace b4 := b4.chg nW fun e => e
  replace b7 := b7.chg nW fun e => e
  replace b10 := b10.chg nW fun e => e
  replace hu4 := hu4.keep (stable_one _) nW.keep
  replace hu110 := (hu110.keep nW.keep).tl
  replace hu210 := hu210.rd.keep (stable_one _) nW.keep
  replace hu10 := hu10.keep (stable_one _) nW.keep
  have n01 := New.trans n010 nW
  clear hu1 hu17 n5 n57 n8 n810 n710 n410 hu2 nW
  have hzW := n01.size
  skip
  refine Wc.cutR (fun F W => agrees F [(3, .pointer (some ⟨w.heap.size, 0, none⟩)), (5, .pointer (some ⟨w2.heap.size, 0, none⟩)), (7, .pointer (some ⟨w5.heap.size, 0, none⟩)), (9, .pointer (some ⟨w8.heap.size, 0, none⟩))] ∧ TlW (fun k => w4.heap.size ≤ k ∧ k < w5.heap.size) W (.slice a1 XS.length cp1) XS.length ∧ Chg (fun k => w4.heap.size ≤ k ∧ k < w5.heap.size) W1 W) ?_ ?_
  · (repeat' (first | refine Wl.assignE (by conv => { lhs; whnf }) ?_ | refine Wl.nil ?_ | refine Qseq.normal ?_ | refine Wc.seq ?_ | refine Wc.region ?_ | refine Wc.block ?_))
    refine Wc.loop (σ := Nat) (fun i => [(3, .pointer (some ⟨w.heap.size, 0, none⟩)), (5, .pointer (some ⟨w2.heap.size, 0, none⟩)), (7, .pointer (some ⟨w5.heap.size, 0, none⟩)), (9, .pointer (some ⟨w8.heap.size, 0, none⟩)), (11, vi i)]) (fun i W => i ≤ XS.length ∧ TlW (fun k => w4.heap.size ≤ k ∧ k < w5.heap.size) W (.slice a1 XS.length cp1) XS.length ∧ Chg (fun k => w4.heap.size ≤ k ∧ k < w5.heap.size) W1 W) (fun i => XS.length - i) 0 ⟨rfl, rfl, rfl, rfl, rfl, trivial⟩ ⟨Nat.zero_le _, hu110, Chg.refl _ _⟩ ?_
    rintro i G W ⟨hi, htl, cW⟩
    simp only [upds]
    have b7W := b7.chg cW (by omega)
    (repeat' (first | refine Wl.moveE (by conv => { lhs; whnf }) ?_ | refine Wc.seq ?_ | refine Wc.region ?_ | refine Wl.fieldAddr rfl rfl ?_))
    refine Wl.load1 (u := .slice a1 XS.length cp1) rfl (b7W.cell (o := 1) rfl) ?_
    (repeat' (first | refine Wl.nil ?_ | refine Wl.lenS rfl ?_ | refine Qseq.normal ?_ | refine Wc.seq ?_ | refine Wc.region ?_ | refine Wc.block ?_ | refine Wc.skip ?_ | refine Wc.exit ?_ | refine Qseq.exit ?_ | refine Qblk.hit ?_ | refine Qloop.exit ?_ | refine Wc.condT rfl ?_ | refine Wc.condF rfl ?_ | refine Wl.fieldAddr rfl rfl ?_ | refine Wl.lss rfl rfl (fun _ => ?_) (fun _ => ?_)))
    · refine Wl.load1 (u := .slice a1 XS.length cp1) rfl (b7W.cell (o := 1) rfl) ?_
      (repeat' (refine Wl.moveE (by conv => { lhs; whnf }) ?_))
      rcases htl with ⟨e, e0⟩ | ⟨g, off, cap, cur, e, hg, hh, h1, h2, h3⟩
      · omega
      cases e
      refine Wl.idxP rfl rfl (by omega) (by omega) ?_
      rw [Nat.mul_one, Int.toNat_natCast]
      have hBk : Bk W g tStr cur.toList := by unfold Bk; simpa using hh
      refine Wl.store1 (u := vs [115, 112, 111, 105, 108, 116]) hBk rfl (by rw [Array.length_toList]; omega) rfl rfl fun w12 b12 c12 => ?_
      have htl12 : TlW (fun k => w4.heap.size ≤ k ∧ k < w5.heap.size) w12 (.slice (some ⟨g, off, none⟩) XS.length cp1) XS.length := by
        refine .inr ⟨g, off, cp1, _, rfl, hg, b12, h1, h2, ?_⟩
        simp only [List.size_toArray, List.length_set, Array.length_toList]
        exact h3
      (repeat' (first | refine Wl.moveE (by conv => { lhs; whnf }) ?_ | refine Wl.assignE (by conv => { lhs; whnf }) ?_ | refine Wl.nil ?_ | refine Qseq.normal ?_ | refine Wc.region ?_ | refine Qblk.normal ?_ | refine Wl.add rfl rfl (by omega) (by omega) ?_))
      exact Qloop.normal (i + 1) ⟨rfl, rfl, rfl, rfl, rfl, trivial⟩ ⟨by omega, htl12, Chg.trans cW c12 fun k _ e => by rw [e]; exact hg⟩ (by omega)
    · exact Qm.normal ⟨⟨rfl, rfl, rfl, rfl, trivial⟩, htl, cW⟩
  rintro F W2 ⟨ag, htl, c2⟩
  refine Wc.frame _ ag fun G => ?_
  clear ag
  simp only [upds]
  replace b1 := b1.chg c2 (by omega)
  replace b4 := b4.chg c2 (by omega)
  replace b7 := b7.chg c2 (by omega)
  replace b10 := b10.chg c2 (by omega)
  replace hu4 := hu4.keep (stable_one _) (c2.keep fun k hk e e' => by omega)
  replace hu210 := hu210.keep (stable_one _) (c2.keep fun k hk e e' => by omega)
  replace hu10 := hu10.keep (stable_one _) (c2.keep fun k hk e e' => by omega)
  have c01 : Chg (fun k => w4.heap.size ≤ k ∧ k < w5.heap.size) w W2 := Chg.trans n01.any c2 fun _ _ e => e
  have hzW2 := c01.size
  have hz5W : w5.heap.size < W2.heap.size := b7.lt
  clear hu110
  skip
  refine Wc.cutR (fun F W => agrees F [(3, .pointer (some ⟨w.heap.size, 0, none⟩)), (5, .pointer (some ⟨w2.heap.size, 0, none⟩)), (9, .pointer (some ⟨w8.heap.size, 0, none⟩))] ∧ Chg (fun k => (w4.heap.size ≤ k ∧ k < w5.heap.size) ∨ k = w5.heap.size) W2 W) ?_ ?_
  · (repeat' (first | refine Wl.assignE (by conv => { lhs; whnf }) ?_ | refine Wl.nil ?_ | refine Qseq.normal ?_ | refine Wc.seq ?_ | refine Wc.region ?_ | refine Wc.block ?_))
    refine Wc.loop (σ := Nat × Value) (fun j => [(3, .pointer (some ⟨w.heap.size, 0, none⟩)), (5, .pointer (some ⟨w2.heap.size, 0, none⟩)), (7, .pointer (some ⟨w5.heap.size, 0, none⟩)), (9, .pointer (some ⟨w8.heap.size, 0, none⟩)), (12, vi j.1)]) (fun j W => j.1 ≤ 20 ∧ TlW (fun k => (w4.heap.size ≤ k ∧ k < w5.heap.size) ∨ W2.heap.size ≤ k) W j.2 (XS.length + j.1) ∧ Bk W w5.heap.size 28 [vs X, j.2] ∧ Chg (fun k => (w4.heap.size ≤ k ∧ k < w5.heap.size) ∨ k = w5.heap.size) W2 W) (fun j => 20 - j.1) (0, .slice a1 XS.length cp1) ⟨rfl, rfl, rfl, rfl, rfl, trivial⟩ ⟨Nat.zero_le _, htl.mono fun k _ e => .inl e, b7, Chg.refl _ _⟩ ?_
    clear htl b7
    rintro ⟨j, v⟩ G W ⟨hj, htl, b7, cW⟩
    dsimp only at hj htl b7
    simp only [upds]
    have hzc := cW.size
    (repeat' (first | refine Wl.moveE (by conv => { lhs; whnf }) ?_ | refine Wl.nil ?_ | refine Qseq.normal ?_ | refine Wc.seq ?_ | refine Wc.region ?_ | refine Wc.block ?_ | refine Wc.skip ?_ | refine Wc.exit ?_ | refine Qseq.exit ?_ | refine Qblk.hit ?_ | refine Qloop.exit ?_ | refine Wc.condT rfl ?_ | refine Wc.condF rfl ?_ | refine Wl.fieldAddr rfl rfl ?_ | refine Wl.lss rfl rfl (fun _ => ?_) (fun _ => ?_)))
    · refine Wl.load1 (u := v) rfl (b7.cell (o := 1) rfl) ?_
      refine Wl.buildSlice1 (R := one vs) (Pe := NoB) (y := [98, 101, 104, 105, 110, 100]) goodVs rfl rfl rfl rfl (by omega) (by omega) fun v3 w3 o3 n3 s3 e3 => ?_
      have hz3 := n3.size
      refine Wk.Wl.appendTl (htl.keep (w' := w3) n3.keep) (o3.rd goodVs.mo) rfl rfl (by omega) (by omega) fun v4 w12 htl4 c4 => ?_
      have hb4 := b7.lt
      have b7' := (b7.chg n3 fun e => e).chg c4 (by omega)
      have hone : v4.oneCell' = true := by obtain ⟨_, _, rfl, _⟩ := htl4.form; rfl
      (repeat' (refine Wl.fieldAddr rfl rfl ?_))
      refine Wl.store1 (u := v4) b7' rfl (show 1 < 2 by omega) rfl hone fun w13 b13 c13 => ?_
      replace b13 : Bk w13 w5.heap.size 28 [vs X, v4] := b13
      have hz4 := c4.size
      (repeat' (first | refine Wl.moveE (by conv => { lhs; whnf }) ?_ | refine Wl.assignE (by conv => { lhs; whnf }) ?_ | refine Wl.nil ?_ | refine Qseq.normal ?_ | refine Wc.region ?_ | refine Qblk.normal ?_ | refine Wl.add rfl rfl (by omega) (by omega) ?_))
      refine Qloop.normal (j + 1, v4) ⟨rfl, rfl, rfl, rfl, rfl, trivial⟩ ⟨by dsimp only; omega, (htl4.mono fun k hk e => ?_).keep (c13.keep fun k hk e e' => by omega), b13, ?_⟩ (by dsimp only; omega)
      · rcases e with e | e
        · exact e
        · right; omega
      · have cA : Chg (fun k => (w4.heap.size ≤ k ∧ k < w5.heap.size) ∨ k = w5.heap.size) W2 w12 := Chg.trans (Chg.trans cW n3.any fun _ _ e => e) c4 fun k hk e => by
          rcases e with e | e
          · exact .inl e
          · omega
        exact Chg.trans cA c13 fun k _ e => .inr e
    · exact Qm.normal ⟨⟨rfl, rfl, rfl, trivial⟩, cW⟩
  rintro F W3 ⟨ag, c3⟩
  refine Wc.frame _ ag fun G => ?_
  clear ag htl b7
  simp only [upds]
  replace b1 := b1.chg c3 (by omega)
  replace b4 := b4.chg c3 (by omega)
  replace b10 := b10.chg c3 (by omega)
  replace hu4 := hu4.keep (stable_one _) (c3.keep fun k hk e e' => by omega)
  replace hu210 := hu210.keep (stable_one _) (c3.keep fun k hk e e' => by omega)
  replace hu10 := hu10.keep (stable_one _) (c3.keep fun k hk e e' => by omega)
  have n03 : New w W3 := (Chg.trans (c01.mono (M' := fun k => (w4.heap.size ≤ k ∧ k < w5.heap.size) ∨ k = w5.heap.size) fun _ _ e => .inl e) c3 fun _ _ e => e).toNew fun k hk e => by omega
  clear c01 c3 c2
  have hzW3 := n03.size
  skip
  refine Wc.cutR (fun F W => agrees F [(3, .pointer (some ⟨w.heap.size, 0, none⟩))] ∧ New W3 W) ?_ ?_
  · refine Wc.seq ?_
    refine Wc.regionT rfl (by kernel_rfl) (fun w' => New W3 w') (Chg.drew _ _) ?_
    intro w11 n11
    skip
    refine Wt.quiet rfl (Wq.loadAt (fun w' n => (b10.chg n fun e => e).at) rfl rfl (Wq.nil ?_))
    skip
    refine Wt.chain rfl (Wl.call (back_spec (x := X) (hu210.keep (stable_one _) n11.keep) (by omega)) rfl ?_)
    rintro _ w12 ⟨⟨v, rfl, o12⟩, n12⟩
    have n112 := New.trans n11 n12
    refine Wl.nil ⟨rfl, n112, ?_⟩
    skip
    refine Wt.quiet rfl (Wq.loadAt (fun w' n => (b4.chg n fun e => e).at) rfl rfl (Wq.nil ?_))
    skip
    refine Wt.chain rfl (Wl.call (Same_spec (a := X) (b := X) (o12.rd goodVs.mo) (hu4.keep (stable_one _) n112.keep)) rfl ?_)
    rintro _ w13 ⟨rfl, n13⟩
    rw [decide_eq_true ⟨rfl, rfl⟩]
    have n113 := New.trans n112 n13
    refine Wl.nil ⟨rfl, n113, ?_⟩
    clear o12
    (repeat' (first | refine Wt.nil ?_ | refine Wt.quiet rfl (Wq.notB rfl (Wq.nil ?_))))
    (repeat' (first | refine Qseq.normal ?_ | refine Wc.skip ?_ | refine Wc.condF rfl ?_))
    exact Qm.normal ⟨⟨rfl, trivial⟩, n113⟩
  rintro F W4 ⟨ag, n4⟩
  refine Wc.frame _ ag fun G => ?_
  clear ag b4 b10 hu4 hu210
  simp only [upds]
  replace b1 := b1.chg n4 fun e => e
  replace hu10 := hu10.keep (stable_one _) n4.keep
  have n04 := New.trans n03 n4
  clear n03 n4
  (repeat' (first | refine Wc.seq ?_ | refine Wc.region ?_ | refine Wl.fieldAddr rfl rfl ?_))
  refine Wl.load1 (u := .slice a xs.length cp) rfl (b1.cell (o := 1) rfl) ?_
  (repeat' (first | refine Wl.assignE (by conv => { lhs; whnf }) ?_ | refine Wl.nil ?_ | refine Wl.lenS rfl ?_ | refine Qseq.normal ?_ | refine Wc.seq ?_ | refine Wc.region ?_))
  refine Wl.loadB b1 rfl rfl ?_
  refine Wl.call (order_spec (x := x) hu10 (by omega)) rfl ?_
  rintro _ w12 ⟨⟨v, rfl, o12⟩, n12⟩
  obtain ⟨av, cv, rfl, _, _⟩ := o12.form
  have hzc := n12.size
  skip
  refine Wl.alloc fun w13 b13 n13 s13 => ?_
  refine Wl.storeB (u := .agg #[vs x, .slice av xs.length cv]) (new := [vs x, .slice av xs.length cv]) b13 rfl rfl rfl rfl (Nat.le_refl 2) cells2 fun w14 b14 c14 s14 => ?_
  replace b14 : Bk w14 w12.heap.size 28 [vs x, .slice av xs.length cv] := b14
  have n1214 : New w12 w14 := (Chg.trans n13.any c14 fun _ _ e => e).toNew fun k hk e => by omega
  have o14 := o12.new (plain_one _) n1214
  have hblo : ∀ k, (Value.slice av xs.length cv).ownBlock = some k → w.heap.size ≤ k ∧ k < w12.heap.size := fun k hk => ⟨by have := (o12.lt hk).1; have := n04.size; omega, (o12.lt hk).2⟩
  have hz14 := n1214.size
  (repeat' (first | refine Wl.nil ?_ | refine Qseq.normal ?_ | refine Wc.seq ?_ | refine Wc.region ?_ | refine Wl.fieldAddr rfl rfl ?_))
  refine Wl.load1 (u := .slice av xs.length cv) rfl (b14.cell (o := 1) rfl) ?_
  refine Wl.buildSlice1 (R := one vs) (Pe := NoB) (y := [109, 97, 114, 107]) goodVs rfl rfl rfl rfl (by omega) (by omega) fun v15 w15 o15 n15 s15 e15 => ?_
  refine Wl.appendAll (R := one vs) goodVs (o14.new (plain_one _) n15) (o15.rd goodVs.mo) (fun y cs hy => hy) rfl rfl (by omega) (by simp only [maxLen, List.length_singleton]; omega) (by simp only [List.length_singleton]; omega) fun v16 w16 o16 c16 lie _ => ?_
  obtain ⟨aw, cw, rfl, hcw, hcw2⟩ := o16.form
  rw [List.length_append, List.length_singleton] at hcw ⊢
  have hz15 := n15.size
  have hz16 := c16.size
  have hblo2 : ∀ k, (Value.slice aw (xs ++ [[109, 97, 114, 107]]).length cw).ownBlock = some k → w.heap.size ≤ k ∧ k ≠ w12.heap.size := fun k hk => by
    rcases lie with e | e
    · have := hblo k (e ▸ hk)
      omega
    · have := e k hk
      have := n04.size
      have := b14.lt
      omega
  (repeat' (refine Wl.moveE (by conv => { lhs; whnf }) ?_))
  refine Wl.sliceToP (b := xs.length) rfl rfl (by omega) ?_
  have b16 := (b14.chg n15 fun e => e).chg c16 fun e => by have := (hblo _ e).2; omega
  (repeat' (refine Wl.fieldAddr rfl rfl ?_))
  refine Wl.store1 (u := .slice aw xs.length cw) b16 rfl (show 1 < 2 by omega) rfl rfl fun w17 b17 c17 => ?_
  replace b17 : Bk w17 w12.heap.size 28 [vs x, .slice aw xs.length cw] := b17
  have n017 : New w w17 := (((Chg.trans (New.trans (New.trans n04 n12) (New.trans n1214 n15)).any c16 fun _ _ e => e).mono (M' := fun k => (Value.slice av xs.length cv).ownBlock = some k ∨ k = w12.heap.size) fun _ _ e => .inl e).trans c17 fun _ _ e => .inr e).toNew fun k hk e => by
    rcases e with e | e
    · have := (hblo k e).1; omega
    · have := n04.size; omega
  have n417 : New W4 w17 := (((Chg.trans (New.trans n12 (New.trans n1214 n15)).any c16 fun _ _ e => e).mono (M' := fun k => (Value.slice av xs.length cv).ownBlock = some k ∨ k = w12.heap.size) fun _ _ e => .inl e).trans c17 fun _ _ e => .inr e).toNew fun k hk e => by
    rcases e with e | e
    · have := (o12.lt e).1; omega
    · omega
  have hu17 := hu10.keep (stable_one _) n417.keep
  have b1' := b1.chg n417 fun e => e
  have o17 := o16.chg (plain_one _) c17 fun k hk e => (hblo2 k hk).2 e
  have hrd17 := o17.rd goodVs.mo
  have hin17 := hrd17.take (m := xs.length) (by rw [List.length_append]; omega) rfl
  rw [List.take_left] at hin17
  (repeat' (first | refine Wl.nil ?_ | refine Qseq.normal ?_ | refine Wc.seq ?_ | refine Wc.region ?_))
  refine Wl.loadB b1' rfl rfl ?_
  refine Wl.call (PrintR_spec hu17 hO (hE.new n017) (hT.new n017)) rfl ?_
  rintro r w18 ⟨hr, n18⟩
  have n018 := New.trans n017 n18
  have b18 := b17.chg n18 fun e => e
  obtain ⟨L, eL, rfl, hLR⟩ : ∃ (L : List UInt8) (eL : Int), r = .tuple #[vs L, vi eL] ∧ ∀ r', PrtR x xs r' → r' = .tuple #[vs L, vi eL] := by
    unfold PrtR at hr ⊢
    cases hp : printM x xs with
    | none => rw [hp] at hr; exact ⟨[], 320, hr, fun r' h => h⟩
    | some l => rw [hp] at hr; exact ⟨l, 0, hr, fun r' h => h⟩
  (repeat' (first | refine Wl.moveE (by conv => { lhs; whnf }) ?_ | refine Wl.assignE (by conv => { lhs; whnf }) ?_ | refine Wl.nil ?_ | refine Wl.extract rfl rfl ?_ | refine Qseq.normal ?_ | refine Wc.seq ?_ | refine Wc.region ?_))
  refine Wl.loadB b18 rfl rfl ?_
  refine Wl.call (Print_spec' (hin17.keep (stable_one _) n18.keep) hO (hE.new n018) (hT.new n018)) rfl ?_
  rintro r w19 ⟨hr', n19⟩
  obtain rfl := hLR r hr'
  have n019 := New.trans n018 n19
  have n1719 := New.trans n18 n19
  have b19 := b18.chg n19 fun e => e
  have b119 := b1'.chg n1719 fun e => e
  have hin19 := hin17.keep (stable_one _) n1719.keep
  have hu19 := hu17.keep (stable_one _) n1719.keep
  have hrd19 := hrd17.keep (stable_one _) n1719.keep
  rw [List.length_append, List.length_singleton] at hrd19
  have hmk : (xs ++ [[109, 97, 114, 107]])[xs.length]? = some [109, 97, 114, 107] := by simp
  clear hr hr' hLR
  (repeat' (first | refine Wl.moveE (by conv => { lhs; whnf }) ?_ | refine Wl.assignE (by conv => { lhs; whnf }) ?_ | refine Wl.nil ?_ | refine Wl.extract rfl rfl ?_ | refine Qseq.normal ?_))
  refine Wc.seq ?_
  refine Wc.regionT rfl (by kernel_rfl) (fun w' => New w19 w') (Chg.drew _ _) ?_
  intro w20 n20
  (repeat' (refine Wt.quiet rfl (Wq.moveE (by conv => { lhs; whnf }) (Wq.nil ?_))))
  refine Wt.quiet rfl (Wq.seql rfl rfl (fun _ => Wq.nil ?_) (fun h => absurd rfl h))
  (repeat' (first | refine Wt.guardY rfl rfl ?_ | refine Wt.quiet rfl (Wq.moveE (by conv => { lhs; whnf }) (Wq.nil ?_))))
  refine Wt.quiet rfl (Wq.eql rfl rfl (fun _ => Wq.nil ?_) (fun h => absurd rfl h))
  (repeat' (first | refine Wt.guardY rfl rfl ?_ | refine Wt.quiet rfl (Wq.moveE (by conv => { lhs; whnf }) (Wq.nil ?_)) | refine Wt.quiet rfl (Wq.pickTE rfl (by conv => { lhs; whnf }) (Wq.nil ?_))))
  refine Wt.quiet rfl (Wq.loadAt (fun w' n => (b19.chg n fun e => e).at) rfl rfl (Wq.nil ?_))
  (repeat' (refine Wt.guardY rfl rfl ?_))
  refine Wt.chain rfl (Wl.call (back_spec (x := x) (hin19.keep (stable_one _) n20.keep) (by omega)) rfl ?_)
  rintro _ w21 ⟨⟨v, rfl, o21⟩, n21⟩
  have n2021 := New.trans n20 n21
  refine Wl.nil ⟨rfl, n2021, ?_⟩
  (repeat' (refine Wt.guardY rfl rfl ?_))
  refine Wt.quiet rfl (Wq.loadAt (fun w' n => (b119.chg n fun e => e).at) rfl rfl (Wq.nil ?_))
  (repeat' (refine Wt.guardY rfl rfl ?_))
  refine Wt.chain rfl (Wl.call (Same_spec (a := x) (b := x) (o21.rd goodVs.mo) (hu19.keep (stable_one _) n2021.keep)) rfl ?_)
  rintro _ w22 ⟨rfl, n22⟩
  rw [decide_eq_true ⟨rfl, rfl⟩]
  have n2022 := New.trans n2021 n22
  refine Wl.nil ⟨rfl, n2022, ?_⟩
  clear o21
  (repeat' (first | refine Wt.guardY rfl rfl ?_ | refine Wt.quiet rfl (Wq.moveE (by conv => { lhs; whnf }) (Wq.nil ?_)) | refine Wt.quiet rfl (Wq.pickTE rfl (by conv => { lhs; whnf }) (Wq.nil ?_)) | refine Wt.quiet rfl (Wq.fieldAddr rfl rfl (Wq.nil ?_))))
  refine Wt.quiet rfl (Wq.load1 (u := .slice aw xs.length cw) rfl (fun w' n => (b19.chg n fun e => e).cell (o := 1) rfl) (Wq.nil ?_))
  (repeat' (first | refine Wt.guardY rfl rfl ?_ | refine Wt.quiet rfl (Wq.moveE (by conv => { lhs; whnf }) (Wq.nil ?_)) | refine Wt.quiet rfl (Wq.add rfl rfl (by omega) (by omega) (Wq.nil ?_))))
  refine Wt.quiet rfl (Wk.Wq.sliceToP (b := xs.length + 1) rfl rfl (by omega) (Wq.nil ?_))
  (repeat' (first | refine Wt.guardY rfl rfl ?_ | refine Wt.quiet rfl (Wq.moveE (by conv => { lhs; whnf }) (Wq.nil ?_))))
  refine Wt.quiet rfl (Wq.idxAddr hrd19 (fun w' hw => Chg.keep hw fun _ _ _ e => e) rfl rfl (by omega) (by rw [Int.toNat_natCast]; exact hmk) fun bb off cs hcl hR hat => Wq.nil ?_)
  obtain rfl : cs = [vs [109, 97, 114, 107]] := hR
  (repeat' (refine Wt.guardY rfl rfl ?_))
  refine Wt.quiet rfl (Wq.load1 (u := vs [109, 97, 114, 107]) rfl (fun w' hw => (hat w' hw).get 0 rfl) (Wq.nil ?_))
  clear hat
  (repeat' (refine Wt.guardY rfl rfl ?_))
  refine Wt.quiet rfl (Wq.seql (a := [109, 97, 114, 107]) (b := [109, 97, 114, 107]) rfl rfl (fun _ => Wq.nil ?_) (fun h => absurd rfl h))
  (repeat' (first | refine Wt.nil ?_ | refine Wt.quiet rfl (Wq.assignE (by conv => { lhs; whnf }) (Wq.nil ?_)) | refine Wt.quiet rfl (Wq.pickTE rfl (by conv => { lhs; whnf }) (Wq.nil ?_))))
  (repeat' (first | refine Qseq.normal ?_ | refine Wc.ret ?_))
  exact Qfn.ret1 rfl rfl ⟨_, rfl, rfl, New.trans n019 n2022⟩
end Go.Proofs.YtpnpllghabbhlaaGreatDoor

namespace Go.Proofs.YtpnpllghabbhlaaGreatDoor
open Go Wk

theorem bulk_one {H : Type} (d : DataW H) : 1 ≤ Rows.uptoBulk d := by
  cases d with
  | lit l => cases l <;> simp [Rows.uptoBulk]
  | _ => simp [Rows.uptoBulk]
theorem bulk_len {H : Type} (l : List (DataW H)) : l.length ≤ Rows.uptoBulkAll l := by
  induction l with
  | nil => simp [Rows.uptoBulkAll]
  | cons x r ih => have := bulk_one x; simp only [Rows.uptoBulkAll, List.length_cons]; omega
theorem bulk_sl {α : Type} {D : Dat α} {H : Type} {xs : List α} {d : DataW H} (h : datSl D H xs d) : xs.length ≤ Rows.uptoBulk d := by
  rcases h with ⟨rfl, rfl⟩ | ⟨es, sp, rfl, hl, _⟩
  · simp
  · have := bulk_len es
    simp only [Rows.uptoBulk]
    omega
/-- A measure of the elements, added up. -/
theorem bulk_sum {α : Type} {D : Dat α} {H : Type} (μ : α → Nat) (hμ : ∀ x d, D H x d → μ x ≤ Rows.uptoBulk d) : ∀ (xs : List α) (es : List (DataW H)), es.length = xs.length → (∀ (i : Nat) (x : α), xs[i]? = some x → ∃ y, es[i]? = some y ∧ D H x y) → (xs.map μ).sum ≤ Rows.uptoBulkAll es
  | [], es, _, _ => by simp
  | x :: xs, [], h, _ => by simp at h
  | x :: xs, e :: es, h, hd => by
    obtain ⟨y, hy, hD⟩ := hd 0 x rfl
    simp at hy
    subst hy
    have ih := bulk_sum μ hμ xs es (by simpa using h) (fun i x hx => by
      obtain ⟨y, hy, hD⟩ := hd (i + 1) x (by simpa using hx)
      exact ⟨y, by simpa using hy, hD⟩)
    have := hμ x e hD
    simp only [List.map_cons, List.sum_cons, Rows.uptoBulkAll]
    omega
theorem bulk_slsum {α : Type} {D : Dat α} {H : Type} {xs : List α} {d : DataW H} (μ : α → Nat) (hμ : ∀ x d, D H x d → μ x ≤ Rows.uptoBulk d) (h : datSl D H xs d) : (xs.map μ).sum ≤ Rows.uptoBulk d := by
  rcases h with ⟨rfl, rfl⟩ | ⟨es, sp, rfl, hl, hd⟩
  · simp
  · have := bulk_sum μ hμ xs es hl hd
    simp only [Rows.uptoBulk]
    omega
theorem bulk_str {H : Type} (l : List UInt8) (d : DataW H) (h : datStr H l d) : l.length + 1 ≤ Rows.uptoBulk d := by
  obtain ⟨rfl, _⟩ := h
  simp [Rows.uptoBulk]
theorem dat_mem {α : Type} {D : Dat α} {H : Type} {xs : List α} {d : DataW H} (h : datSl D H xs d) {x : α} (hx : x ∈ xs) : ∃ y, D H x y := by
  obtain ⟨i, hi⟩ := List.mem_iff_getElem?.1 hx
  rcases h with ⟨rfl, rfl⟩ | ⟨es, sp, rfl, hl, hd⟩
  · simp at hi
  · obtain ⟨y, _, hD⟩ := hd i x hi
    exact ⟨y, hD⟩
end Go.Proofs.YtpnpllghabbhlaaGreatDoor

namespace Go.Proofs.YtpnpllghabbhlaaGreatDoor
open Go Wk Go.ChangeShapes

theorem cStr : Tryz.prog.cellsOf 9 = 1 := by kernel_rfl
theorem cStrs : Tryz.prog.cellsOf 22 = 1 := by kernel_rfl
theorem cOrd : Tryz.prog.cellsOf 24 = 2 := by kernel_rfl
theorem len2 {α : Type} {l : List α} (h : l.length = 2) : ∃ a b, l = [a, b] := by
  match l, h with
  | [a, b], _ => exact ⟨a, b, rfl⟩
abbrev Odr := List UInt8 × List (List UInt8)
def rOdr : Rel Odr := fun Pb w p cs => ∃ v, cs = [vs p.1, v] ∧ RdS (one vs) 1 Pb w v p.2
def datOdr : Dat Odr := fun H x d => ∃ d0 d1, d = .agg [d0, d1] ∧ datStr H x.1 d0 ∧ datSl datStr H x.2 d1
theorem opens_odr : Opens Tryz.prog 24 rOdr datOdr := by
  intro H enc w fuel cs d ps h
  obtain ⟨xs, n, rfl, hx, hl, hlen, hf⟩ := DataW.trod_struct Tryz.underlying24 h
  rw [cOrd] at hl
  obtain ⟨c0, c1, rfl⟩ := len2 hl
  obtain ⟨y0, y1, rfl⟩ := len2 (show xs.length = 2 from hlen)
  have e0 : DataW.trod enc Tryz.prog w 0 (fun _ => true) true n 9 (([c0, c1].drop 0).take (Tryz.prog.cellsOf 9)) = some y0 := hf 0 _ rfl
  rw [cStr] at e0
  have e1 : DataW.trod enc Tryz.prog w 0 (fun _ => true) true n 22 (([c0, c1].drop 1).take (Tryz.prog.cellsOf 22)) = some y1 := hf 1 _ rfl
  rw [cStrs] at e1
  cases hx
  obtain ⟨s0, r0, q0⟩ := opens_str Tryz.underlying9 H enc w n _ _ _ e0
  obtain ⟨s1, r1, q1⟩ := opens_slice Tryz.underlying22 cStr (by decide) (opens_str Tryz.underlying9) H enc w n _ _ _ e1
  have r0' : [c0] = [vs s0] := r0 (fun _ => True) (fun _ _ => trivial)
  cases r0'
  obtain ⟨v, hv, _⟩ := r1 (fun _ => True) (fun _ _ => trivial)
  replace hv : [c1] = [v] := hv
  cases hv
  refine ⟨(s0, s1), fun Pb hP => ⟨c1, rfl, ?_⟩, _, _, rfl, q0, q1⟩
  obtain ⟨v, hv, hr⟩ := r1 Pb (fun p hp => hP p (by simp [hp]))
  replace hv : [c1] = [v] := hv
  cases hv
  exact hr
theorem okWide_struct {P : Program} {W : World} {r : Reach} {base : Nat} {t : TypeId} {fs : Array Field} {v : Value} (ht : P.underlying t = some (.struct fs)) (h : Value.okWide P W r base t v) : ∃ cs, v = .agg cs ∧ cs.size = P.cellsOf t := by
  unfold Value.okWide at h
  rw [ht] at h
  obtain ⟨cs, h1, h2, _⟩ := h
  exact ⟨cs, h1, h2⟩
theorem sum_len (l : List (List UInt8)) : (l.map fun x : List UInt8 => x.length + 1).sum = l.flatten.length + l.length := by
  induction l with
  | nil => rfl
  | cons x l ih => simp only [List.map_cons, List.sum_cons, ih, List.flatten_cons, List.length_append, List.length_cons]; omega
theorem bulk_odr {H : Type} {x : Odr} {d : DataW H} (h : datOdr H x d) : x.1.length + x.2.flatten.length + x.2.length ≤ Rows.uptoBulk d := by
  obtain ⟨d0, d1, rfl, h0, h1⟩ := h
  have b0 := bulk_str x.1 d0 h0
  have b1 := bulk_slsum (fun l : List UInt8 => l.length + 1) (fun x d h => bulk_str x d h) h1
  rw [sum_len] at b1
  simp only [Rows.uptoBulk, Rows.uptoBulkAll]
  omega

theorem laidVar_of {P : Program} {w : World} {n : String} {d : DataW Unit} : ∀ {l : List (String × DataW Unit)} {ps : List MemPlace}, DataW.LaidVars P w l ps → (n, d) ∈ l →
    ∃ g t cs fuel p, P.globalNamed n = some g ∧ (P.globals[g]?).map (·.type) = some t ∧ w.var? P n = some cs ∧ DataW.trod (fun _ => ()) P w 0 (fun _ => true) false fuel t cs.toList = some (d, p)
  | [], _, _, h => by cases h
  | (m, e) :: r, ps, hl, h => by
    obtain ⟨g, t, cs, fuel, p, q, h1, h2, h3, h4, h5, _⟩ := hl
    rcases List.mem_cons.1 h with h | h
    · cases h
      exact ⟨g, t, cs, fuel, p, h1, h2, h3, h4⟩
    · exact laidVar_of h5 h
def deB64 : List Int := [0, 1, 56, 2, 57, 49, 28, 3, 61, 58, 42, 50, 38, 29, 17, 4, 62, 47, 59, 36, 45, 43, 51, 22, 53, 39, 33, 30, 24, 18, 12, 5, 63, 55, 48, 27, 60, 41, 37, 16, 46, 35, 44, 21, 52, 32, 23, 11, 54, 26, 40, 15, 34, 20, 31, 10, 25, 14, 19, 9, 13, 8, 7, 6]
theorem tb_of {W : World} {l : List (String × DataW Unit)} (h : laidMet Tryz.prog l W) (hm : ("internal/strconv.uint64pow10", Rows.laid_internal_strconv_uint64pow10) ∈ l) : Tb W := by
  obtain ⟨ps, hl, _⟩ := h
  obtain ⟨g, t, cs, fuel, p, h1, h2, h3, h4⟩ := laidVar_of hl hm
  obtain rfl : 3 = g := Option.some.inj ((show Tryz.prog.globalNamed "internal/strconv.uint64pow10" = some 3 by kernel_rfl).symm.trans h1)
  obtain rfl : 123 = t := Option.some.inj ((show (Tryz.prog.globals[3]?).map (·.type) = some 123 by kernel_rfl).symm.trans h2)
  have hc := Lib.cells_of_tab (zs := Lib.pow10Tab) Tryz.underlying123 Tryz.underlying72 (by kernel_rfl) (by kernel_rfl) h4
  unfold Tb Lib.TabIs
  rw [h3]
  exact congrArg some (Array.ext' hc)
theorem met_of {P : Program} {l : List (String × DataW Unit)} {W : World} (h0 : (l.filter fun x => x.2.handleName?.isSome) = []) (h : laidMetH P l W) : laidMet P l W := by
  unfold laidMetH at h
  rw [h0] at h; exact h
theorem iface_of_trod {H : Type} {enc : TypeId × Value → H} {P : Program} {w : World} {base : Nat} {sp : Nat → Bool} {held : Bool} {fuel : Nat} {t : TypeId} {ms : Array (String × TypeId)} {cs : List Value} {nm : String} {d : DataW H} {p : List MemPlace}
    (ht : P.underlying t = some (.interface ms)) (h : DataW.trod enc P w base sp held fuel t cs = some (.iface nm d, p)) : ∃ u v, cs = [.iface u v] := by
  cases fuel with
  | zero => simp [DataW.trod] at h
  | succ fuel =>
    simp only [DataW.trod, ht] at h
    split at h <;> first | cases h | exact ⟨_, _, rfl⟩ | simp_all
theorem cell_lt {w : World} {g i : Nat} {v : Value} (h : w.cell? ⟨g, i, none⟩ = some v) : g < w.heap.size := by
  rcases Nat.lt_or_ge g w.heap.size with h1 | h1
  · exact h1
  · simp only [World.cell?] at h
    rw [Array.getElem?_eq_none h1] at h; cases h
theorem errV_of {W : World} {l : List (String × DataW Unit)} (h : laidMet Tryz.prog l W) (hm : ("strconv.ErrRange", Rows.laid_strconv_ErrRange) ∈ l) (hm' : ("strconv.ErrSyntax", Rows.laid_strconv_ErrSyntax) ∈ l) : ErrV W := by
  obtain ⟨ps, hl, _⟩ := h
  rintro g (rfl | rfl)
  · obtain ⟨g, t, cs, fuel, p, h1, h2, h3, h4⟩ := laidVar_of hl hm'
    obtain rfl : 1 = g := Option.some.inj ((show Tryz.prog.globalNamed "strconv.ErrSyntax" = some 1 by kernel_rfl).symm.trans h1)
    obtain rfl : 64 = t := Option.some.inj ((show (Tryz.prog.globals[1]?).map (·.type) = some 64 by kernel_rfl).symm.trans h2)
    obtain ⟨u, v, hc⟩ := iface_of_trod Tryz.underlying64 h4
    have h5 := World.var?_cell h1 h3 0
    rw [← Array.getElem?_toList, hc] at h5
    exact ⟨cell_lt h5, u, v, h5⟩
  · obtain ⟨g, t, cs, fuel, p, h1, h2, h3, h4⟩ := laidVar_of hl hm
    obtain rfl : 2 = g := Option.some.inj ((show Tryz.prog.globalNamed "strconv.ErrRange" = some 2 by kernel_rfl).symm.trans h1)
    obtain rfl : 64 = t := Option.some.inj ((show (Tryz.prog.globals[2]?).map (·.type) = some 64 by kernel_rfl).symm.trans h2)
    obtain ⟨u, v, hc⟩ := iface_of_trod Tryz.underlying64 h4
    have h5 := World.var?_cell h1 h3 0
    rw [← Array.getElem?_toList, hc] at h5
    exact ⟨cell_lt h5, u, v, h5⟩
end Go.Proofs.YtpnpllghabbhlaaGreatDoor
