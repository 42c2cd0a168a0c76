/-
  Texts of this claim, one behind the other: N1, Pl1, Pl2, Mp, Pl3, Srt, Pl4, Pl5, N2, Xp, Bulk, Xo, X2.
-/
import Derived.Test.YtjaendlcijmifaaGreatDoorZd
import Derived.Shelf.SlSortCmp.NoneTotal
import Derived.Ground.SlsfProg
import Derived.Test.YtjaendlcijmifaaGreatDoorProg
import Derived.Sort.Walk0
import Derived.Laws.Cover1
import Derived.Test.YtjaendlcijmifaaGreatDoorRows
import Derived.Lib.LaidTab
import Derived.ChangeSame
namespace Go.Proofs.YtjaendlcijmifaaGreatDoor
open Go Wk
open Go.RowKit (Below)
attribute [local irreducible] Go.Calls

theorem Add_nil {w : World} {ca : Nat} {tm : Int} {kd : Nat} {pa : List UInt8} {ar : Int} : Calls Tryz.prog 9 #[.pointer none, .int .u64 ca, vi tm, .int .u8 kd, vs pa, vi ar] w (Ret fun r w' => r = .tuple #[.int .u64 0, vi 2] ∧ w = w') := by
  refine calls_of_Wc Tryz.func9 rfl Tryz.ntmps9 rfl ?_
  (repeat' (first | refine Wl.moveE (by conv => { lhs; whnf }) ?_ | refine Wl.assignE (by conv => { lhs; whnf }) ?_ | refine Wl.nil ?_ | refine Qseq.normal ?_ | refine Wc.seq ?_ | refine Wc.region ?_ | refine Wc.block ?_))
  refine Wl.peqNil rfl rfl ?_
  (repeat' (first | refine Wl.assignE (by conv => { lhs; whnf }) ?_ | refine Wl.nil ?_ | refine Qseq.normal ?_ | refine Wc.seq ?_ | refine Wc.region ?_ | refine Wc.ret ?_ | refine Qseq.ret ?_ | refine Qblk.ret ?_ | refine Wc.condT rfl ?_))
  exact Qfn.ret2 rfl rfl rfl ⟨_, rfl, rfl, rfl⟩
theorem Get_nil {w : World} {id : Nat} : Calls Tryz.prog 10 #[.pointer none, .int .u64 id] w (Ret fun r w' => r = .tuple #[evV ev0, vi 2] ∧ New w w') := by
  refine calls_of_Wc Tryz.func10 rfl Tryz.ntmps10 rfl ?_
  (repeat' (first | refine Wc.seq ?_ | refine Wc.region ?_))
  refine Wl.alloc fun w1 b1 n1 s1 => ?_
  replace b1 : Bk w1 w.heap.size 27 (evC ev0) := b1
  (repeat' (first | refine Wl.moveE (by conv => { lhs; whnf }) ?_ | refine Wl.assignE (by conv => { lhs; whnf }) ?_ | refine Wl.nil ?_ | refine Qseq.normal ?_ | refine Wc.seq ?_ | refine Wc.region ?_))
  refine Wl.peqNil rfl rfl ?_
  (repeat' (first | refine Wl.nil ?_ | refine Qseq.normal ?_ | refine Wc.seq ?_ | refine Wc.region ?_ | refine Wc.condT rfl ?_))
  refine Wl.buildG (u := evV ev0) rfl (by kernel_rfl) ?_
  skip
  refine Wl.storeB (o := 0) (new := evC ev0) b1 rfl rfl rfl rfl (by decide) (evC_one _) fun w3 b3 c3 s3 => ?_
  (repeat' (first | refine Wl.assignE (by conv => { lhs; whnf }) ?_ | refine Wl.nil ?_ | refine Qseq.normal ?_ | refine Wc.ret ?_ | refine Qseq.ret ?_))
  exact Qfn.retR (results2 rfl (rvOf_agg (e := 27) rfl rfl b3 rfl) (rvOf_tmp rfl)) ⟨_, rfl, rfl, Chg.trans n1 c3 fun k hk e => by omega⟩
theorem Lost_nil {w : World} : Calls Tryz.prog 13 #[.pointer none] w (Ret fun r w' => r = .int .u64 0 ∧ w = w') := by
  refine calls_of_Wc Tryz.func13 rfl Tryz.ntmps13 rfl ?_
  (repeat' (first | refine Wl.moveE (by conv => { lhs; whnf }) ?_ | refine Wl.assignE (by conv => { lhs; whnf }) ?_ | refine Wl.nil ?_ | refine Qseq.normal ?_ | refine Wc.seq ?_ | refine Wc.region ?_))
  refine Wl.peqNil rfl rfl ?_
  (repeat' (first | refine Wl.assignE (by conv => { lhs; whnf }) ?_ | refine Wl.nil ?_ | refine Qseq.normal ?_ | refine Wc.seq ?_ | refine Wc.region ?_ | refine Wc.ret ?_ | refine Qseq.ret ?_ | refine Wc.condT rfl ?_))
  exact Qfn.ret1 rfl rfl ⟨_, rfl, rfl, rfl⟩
theorem Why_nil {w : World} {id : Nat} : Calls Tryz.prog 11 #[.pointer none, .int .u64 id] w (Ret fun r w' => r = .tuple #[.slice none 0 0, .bool false, vi 2] ∧ New w w') := by
  refine calls_of_Wc Tryz.func11 rfl Tryz.ntmps11 rfl ?_
  (repeat' (first | refine Wl.moveE (by conv => { lhs; whnf }) ?_ | refine Wl.assignE (by conv => { lhs; whnf }) ?_ | refine Wl.nil ?_ | refine Qseq.normal ?_ | refine Wc.seq ?_ | refine Wc.region ?_))
  refine Wl.call Get_nil rfl ?_
  rintro _ w1 ⟨rfl, n1⟩
  (repeat' (first | refine Wl.moveE (by conv => { lhs; whnf }) ?_ | refine Wl.extract rfl rfl ?_))
  refine Wl.alloc fun w2 b2 n2 s2 => ?_
  refine Wl.storeB (o := 0) (new := evC ev0) b2 rfl rfl rfl rfl (by decide) (evC_one _) fun w3 b3 c3 s3 => ?_
  have n3 : New w1 w3 := Chg.trans n2 c3 fun _ _ e => by omega
  (repeat' (first | refine Wl.moveE (by conv => { lhs; whnf }) ?_ | refine Wl.assignE (by conv => { lhs; whnf }) ?_ | refine Wl.nil ?_ | refine Qseq.normal ?_ | refine Wc.seq ?_ | refine Wc.region ?_ | refine Wc.ret ?_ | refine Qseq.ret ?_ | refine Wc.condT rfl ?_ | (refine Wl.neq rfl rfl (fun _ => ?_) (fun _ => ?_) <;> (first | (exfalso; omega) | skip))))
  exact Qfn.ret3 rfl rfl rfl rfl ⟨_, rfl, rfl, n1.trans n3⟩
theorem Led_nil {w : World} {id : Nat} : Calls Tryz.prog 12 #[.pointer none, .int .u64 id] w (Ret fun r w' => r = .tuple #[.slice none 0 0, vi 2] ∧ New w w') := by
  refine calls_of_Wd Tryz.func12 rfl Tryz.ntmps12 rfl ?_
  (repeat' (first | refine Wl.moveE (by conv => { lhs; whnf }) ?_ | refine Wl.assignE (by conv => { lhs; whnf }) ?_ | refine Wl.nil ?_ | refine Wd.seq ?_ | refine Qds.normal ?_ | refine Wd.region ?_))
  refine Wl.call Get_nil rfl ?_
  rintro _ w1 ⟨rfl, n1⟩
  (repeat' (first | refine Wl.moveE (by conv => { lhs; whnf }) ?_ | refine Wl.extract rfl rfl ?_))
  refine Wl.alloc fun w2 b2 n2 s2 => ?_
  refine Wl.storeB (o := 0) (new := evC ev0) b2 rfl rfl rfl rfl (by decide) (evC_one _) fun w3 b3 c3 s3 => ?_
  have n3 : New w1 w3 := Chg.trans n2 c3 fun _ _ e => by omega
  (repeat' (first | refine Wl.moveE (by conv => { lhs; whnf }) ?_ | refine Wl.assignE (by conv => { lhs; whnf }) ?_ | refine Wl.nil ?_ | refine Wd.seq ?_ | refine Wd.condT rfl ?_ | refine Qds.normal ?_ | refine Qds.ret ?_ | refine Wd.region ?_ | refine Wd.ret ?_ | (refine Wl.neq rfl rfl (fun _ => ?_) (fun _ => ?_) <;> (first | (exfalso; omega) | skip))))
  exact Lv.ret (results2 rfl (rvOf_tmp rfl) (rvOf_tmp rfl)) ⟨_, rfl, rfl, n1.trans n3⟩

/-- Digits by a count. -/
def decF : Nat → Nat → List UInt8
  | 0, _ => []
  | f + 1, u => if u < 10 then [UInt8.ofNat (48 + u)] else decF f (u / 10) ++ [UInt8.ofNat (48 + u % 10)]
theorem decF_eq : ∀ {f u : Nat}, u < 10 ^ (f + 1) → decN u = decF (f + 1) u := by
  intro f
  induction f with
  | zero => intro u h; rw [decF, if_pos (by omega)]; exact Lib.decDigits_one (by omega)
  | succ f ih =>
    intro u h
    unfold decN
    rw [decF, Lib.decDigits]
    split
    · rfl
    · exact congrArg (· ++ _) (ih (u := u / 10) (by rw [Nat.pow_succ] at h; omega))
abbrev endId : Nat := 4611686018427387904
def endEv : Ev := ⟨endId, 0, 0, 9, [47], 0⟩
def endL : List UInt8 := [52, 54, 49, 49, 54, 56, 54, 48, 49, 56, 52, 50, 55, 51, 56, 55, 57, 48, 52, 32, 48, 32, 110, 111, 116, 101, 32, 47, 32, 48]
def overL : List UInt8 := [52, 54, 49, 49, 54, 56, 54, 48, 49, 56, 52, 50, 55, 51, 56, 55, 57, 48, 53, 32, 48, 32, 110, 111, 116, 101, 32, 47, 32, 48]
theorem note_k : nameK 9 ≠ [] := by decide
theorem path_r : pathM [47] = true := by decide
theorem end_line : lineM endEv = endL := by
  have e0 : decI 0 = [48] := (int_dig 0).trans (nat_dig (by omega))
  have e1 : decN endId = decF 20 endId := decF_eq (by decide)
  have e2 : decF 20 endId = [52, 54, 49, 49, 54, 56, 54, 48, 49, 56, 52, 50, 55, 51, 56, 55, 57, 48, 52] := by decide +kernel
  simp only [lineM, lineH, endEv, e0, e1, e2]
  rfl
theorem endEvW : EvW endEv := ⟨by decide, by decide, by decide, by decide, by decide, by decide, by decide⟩
theorem evL_of {t : Tr} (h : TrOk t) {i : Nat} {e : Ev} (he : t.kept[i]? = some e) : EvL e := by
  have hm := List.mem_of_getElem? he
  have hlt := (List.getElem?_eq_some_iff.1 he).1
  have h1 := h.ids i e he
  have h2 := h.last
  unfold Tr.last at h2
  have h3 := h.ok e hm
  exact ⟨h3.1, h3.2.1, h3.2.2, by omega, by omega, h.cas e hm⟩
theorem end_ok : TrOk ⟨1, endId - 1, [endEv]⟩ := by
  refine ⟨by decide, by decide, by decide, fun _ => rfl, by decide, fun i e he => ?_, fun e he => ?_, fun e he => ?_, fun i e f he hf => ?_⟩
  · cases i with
    | zero => cases he; rfl
    | succ i => simp at he
  · obtain rfl := List.mem_singleton.1 he; decide
  · obtain rfl := List.mem_singleton.1 he; exact ⟨endEvW, note_k, path_r⟩
  · simp at hf
theorem one_line {t : Tr} {s : List UInt8} (h : linesM t = [s]) : ∃ e, t.kept = [e] ∧ lineM e = s := by
  unfold linesM at h
  cases hk : t.kept with
  | nil => rw [hk] at h; cases h
  | cons e r =>
    rw [hk, List.map_cons] at h
    injection h with h1 h2
    cases r with
    | nil => exact ⟨e, rfl, h1⟩
    | cons _ _ => cases h2
theorem end_last {t : Tr} (h : TrOk t) (hl : linesM t = [endL]) : t.last = endId := by
  obtain ⟨e, hk, he⟩ := one_line hl
  have h0 : t.kept[0]? = some e := by rw [hk]; rfl
  have hx := evL_of h h0
  have hy : EvL endEv := evL_of end_ok (i := 0) rfl
  obtain rfl := line_inj hx hy (he.trans end_line.symm)
  have h1 := h.ids 0 _ h0
  unfold Tr.last
  rw [hk]
  exact h1.symm
theorem end_add {t : Tr} (h : TrOk t) (hl : linesM t = [endL]) : t.add 0 0 9 [47] 0 = (0, 3, t) := by
  have h1 := end_last h hl
  unfold Tr.add
  rw [if_neg fun e => e.elim (fun e => absurd e (by omega)) fun e => e.elim note_k fun e => absurd (path_r.symm.trans e) (by decide), if_pos (by rw [h1]; decide)]
theorem over_no {t : Tr} (h : TrOk t) (hl : linesM t = [overL]) : False := by
  obtain ⟨e, hk, he⟩ := one_line hl
  have hx := evL_of h (i := 0) (by rw [hk]; rfl)
  have h1 := split_line hx
  rw [he] at h1
  have h2 : (splitR 32 overL)[0]? = some (decF 20 (endId + 1)) := by decide +kernel
  rw [h1] at h2
  have h3 : decN e.id = decN (endId + 1) := (Option.some.inj h2).trans (decF_eq (by decide)).symm
  have h4 := decN_inj hx.w.id (by decide) h3
  have h5 := hx.i1
  rw [h4] at h5
  exact absurd h5 (by decide)
def deepL (n : Nat) : List UInt8 := (List.replicate n [47, 97]).flatten
theorem deep_succ (n : Nat) : deepL (n + 1) = deepL n ++ [47, 97] := by unfold deepL; rw [List.replicate_succ', List.flatten_append]; rfl
theorem deep_len (n : Nat) : (deepL n).length = 2 * n := by
  induction n with
  | zero => rfl
  | succ n ih => rw [deep_succ, List.length_append, ih]; show 2 * n + 2 = _; omega
theorem deep_bad : pathM (deepL 16) = false := by decide +kernel
theorem deep_good : pathM ((deepL 16).drop 2) = true := by decide +kernel
def new96 : Tr := ⟨4096, 0, []⟩
theorem add96 : new96.add 1 0 9 [47] 0 = (0, 1, new96) := by unfold Tr.add; rw [if_pos (.inl (by decide))]
theorem add96d : new96.add 0 0 9 (deepL 16) 0 = (0, 1, new96) := by unfold Tr.add; rw [if_pos (.inr (.inr deep_bad))]
theorem add96g : (new96.add 0 0 9 ((deepL 16).drop 2) 0).2.1 = 0 := by
  unfold Tr.add
  rw [if_neg fun e => e.elim (fun e => absurd e (by decide)) fun e => e.elim note_k fun e => absurd (deep_good.symm.trans e) (by decide), if_neg (by decide)]
end Go.Proofs.YtjaendlcijmifaaGreatDoor

namespace Go.Proofs.YtjaendlcijmifaaGreatDoor
open Go Wk

structure Dv where
  bo : Bool
  on : Bool
  sl : Bool
  go : Bool
def dv0 : Dv := ⟨false, false, false, false⟩
def mayM (d : Dv) : Nat → Bool
  | 1 => !d.go && !d.bo
  | 2 => d.bo && (!d.on && !d.sl)
  | 3 => !d.on && !d.go
  | 4 => d.on
  | 5 => d.bo && !d.sl
  | 6 => d.sl
  | 7 => d.go
  | 8 => !d.go && (!d.bo && !d.on)
  | 9 => true
  | _ => false
def doM (d : Dv) : Nat → Dv
  | 1 => ⟨true, d.on, d.sl, d.go⟩
  | 2 => ⟨false, d.on, d.sl, d.go⟩
  | 3 => ⟨d.bo, true, d.sl, d.go⟩
  | 4 => ⟨d.bo, false, d.sl, d.go⟩
  | 5 => ⟨d.bo, d.on, true, d.go⟩
  | 6 => ⟨d.bo, d.on, false, d.go⟩
  | 7 => ⟨d.bo, d.on, d.sl, false⟩
  | 8 => ⟨d.bo, d.on, d.sl, true⟩
  | _ => d
abbrev DS := List (List UInt8 × Dv)
def look (S : DS) (p : List UInt8) : Option Dv := (S.find? fun e => decide (e.1 = p)).map (·.2)
def putD (S : DS) (p : List UInt8) (d : Dv) : DS := if (look S p).isSome then S.map (fun e => if e.1 = p then (p, d) else e) else S ++ [(p, d)]
/-- One event: a path and a kind. -/
def stepD (S : DS) (p : List UInt8) (k : Nat) : Option DS :=
  if nameK k ≠ [] ∧ pathM p = true ∧ mayM ((look S p).getD dv0) k = true then some (putD S p (doM ((look S p).getD dv0) k)) else none
def playS : List (List UInt8 × Nat) → Nat → DS → Nat ⊕ DS
  | [], _, S => .inr S
  | x :: r, i, S => match stepD S x.1 x.2 with
    | none => .inl i
    | some S' => playS r (i + 1) S'
def pk (e : Ev) : List UInt8 × Nat := (e.pa, e.kd)
def playM (l : List Ev) : Nat ⊕ DS := playS (l.map pk) 0 []

theorem look_none {S : DS} {p : List UInt8} : look S p = none ↔ ∀ e ∈ S, e.1 ≠ p := by
  unfold look; rw [Option.map_eq_none_iff, List.find?_eq_none]; simp
theorem look_some {S : DS} {p : List UInt8} {d : Dv} (h : look S p = some d) : (p, d) ∈ S := by
  unfold look at h
  obtain ⟨e, he, rfl⟩ := Option.map_eq_some_iff.1 h
  have h1 := List.find?_some he
  have h2 := List.mem_of_find?_eq_some he
  have h3 : e.1 = p := by simpa using h1
  rw [← h3]; exact h2
/-- Each path stands once. -/
def Keys (S : DS) : Prop := S.Pairwise fun a b => a.1 ≠ b.1
theorem Keys.uniq {S : DS} (h : Keys S) {p : List UInt8} {a b : Dv} (ha : (p, a) ∈ S) (hb : (p, b) ∈ S) : a = b := by
  induction S with
  | nil => simp at ha
  | cons e S ih =>
    obtain ⟨h1, h2⟩ := List.pairwise_cons.1 h
    rcases List.mem_cons.1 ha with ha | ha <;> rcases List.mem_cons.1 hb with hb | hb
    · rw [← hb] at ha; exact (Prod.mk.inj ha).2
    · exact absurd (by rw [← ha]) (h1 _ hb)
    · exact absurd (by rw [← hb]) (h1 _ ha)
    · exact ih h2 ha hb
theorem Keys.look {S : DS} (h : Keys S) {p : List UInt8} {d : Dv} (hd : (p, d) ∈ S) : look S p = some d := by
  cases hl : Go.Proofs.YtjaendlcijmifaaGreatDoor.look S p with
  | none => exact absurd rfl (look_none.1 hl _ hd)
  | some e => rw [h.uniq (look_some hl) hd]
theorem Keys.perm {S R : DS} (h : Keys S) (hp : R.Perm S) : Keys R := (hp.pairwise_iff fun h => h.symm).2 h
theorem look_perm {S R : DS} (h : Keys S) (hp : R.Perm S) (p : List UInt8) : look R p = look S p := by
  cases hl : look S p with
  | none => exact look_none.2 fun e he => look_none.1 hl e (hp.mem_iff.1 he)
  | some d => exact (h.perm hp).look (hp.mem_iff.2 (look_some hl))
theorem keys_map {S : DS} (h : Keys S) (p : List UInt8) (d : Dv) : Keys (S.map fun e => if e.1 = p then (p, d) else e) := by
  unfold Keys at h ⊢
  rw [List.pairwise_map]
  refine h.imp fun {a b} hab => ?_
  have e : ∀ x : List UInt8 × Dv, (if x.1 = p then (p, d) else x).1 = x.1 := fun x => by split <;> simp_all
  rw [e, e]; exact hab
theorem Keys.put {S : DS} (h : Keys S) (p : List UInt8) (d : Dv) : Keys (putD S p d) := by
  unfold putD
  split
  · exact keys_map h p d
  · rename_i hn
    unfold Keys
    rw [List.pairwise_append]
    refine ⟨h, List.pairwise_singleton _ _, fun a ha b hb => ?_⟩
    rw [List.mem_singleton.1 hb]
    exact look_none.1 (by simpa using hn) a ha
theorem look_put {S : DS} (p : List UInt8) (d : Dv) (q : List UInt8) : look (putD S p d) q = if q = p then some d else look S q := by
  unfold putD
  split
  · rename_i hs
    unfold look
    rw [List.find?_map]
    have e : ((fun e : List UInt8 × Dv => decide (e.1 = q)) ∘ fun e => if e.1 = p then (p, d) else e) = fun e => decide (e.1 = q) := by
      funext x; simp only [Function.comp]; congr 1; split <;> simp_all
    rw [e]
    by_cases hq : q = p
    · subst hq
      rw [if_pos rfl]
      obtain ⟨e', he'⟩ := Option.isSome_iff_exists.1 hs
      unfold look at he'
      obtain ⟨x, hx, _⟩ := Option.map_eq_some_iff.1 he'
      have := List.find?_some hx
      rw [hx]; simp_all
    · rw [if_neg hq]
      cases hf : S.find? fun e => decide (e.1 = q) with
      | none => rfl
      | some x =>
        have h1 := List.find?_some hf
        have h2 : x.1 = q := by simpa using h1
        simp [h2, hq]
  · rename_i hs
    have hn : look S p = none := by simpa using hs
    unfold look
    rw [List.find?_append]
    by_cases hq : q = p
    · subst hq
      rw [if_pos rfl]
      have : S.find? (fun e => decide (e.1 = q)) = none := by
        rw [List.find?_eq_none]; intro x hx; simpa using look_none.1 hn x hx
      rw [this]; simp
    · rw [if_neg hq]
      have : List.find? (fun e : List UInt8 × Dv => decide (e.1 = q)) [(p, d)] = none := by simp; exact fun e => hq e.symm
      rw [this]; cases S.find? (fun e => decide (e.1 = q)) <;> rfl
/-- The same devices, in order. -/
def SortOf (S R : DS) : Prop := R.Perm S ∧ R.Pairwise fun a b => a.1 < b.1
theorem SortOf.uniq {S R R' : DS} (h : SortOf S R) (h' : SortOf S R') : R = R' := by
  refine List.Perm.eq_of_pairwise (le := fun a b => a.1 < b.1) ?_ h.2 h'.2 (h.1.trans h'.1.symm)
  intro a b _ _ hab hba
  exact absurd hba (List.lt_asymm hab)
theorem SortOf.keys {S R : DS} (h : SortOf S R) : Keys R := h.2.imp fun {a b} (hab : a.1 < b.1) (e : a.1 = b.1) => List.lt_irrefl b.1 (by rw [e] at hab; exact hab)
theorem lt_of_not {a b : List UInt8} (h1 : ¬ a < b) (h2 : a ≠ b) : b < a := by
  by_cases h : b < a
  · exact h
  · exact absurd (List.le_antisymm (List.not_lt.1 h) (List.not_lt.1 h1)) h2
end Go.Proofs.YtjaendlcijmifaaGreatDoor

namespace Go.Proofs.YtjaendlcijmifaaGreatDoor
open Go Wk

theorem putD_keys (S : DS) (p : List UInt8) (d : Dv) (hs : look S p ≠ none) : putD S p d = S.map fun e => if e.1 = p then (p, d) else e := by
  unfold putD; rw [if_pos (by cases h : look S p <;> simp_all)]
theorem putD_new (S : DS) (p : List UInt8) (d : Dv) (hs : look S p = none) : putD S p d = S ++ [(p, d)] := by
  unfold putD; rw [hs]; rfl
section
variable {S R : DS} {p : List UInt8} {k : Nat}
theorem pair_at {α : Type} {r : α → α → Prop} {l : List α} (h : l.Pairwise r) {i j : Nat} {a b : α} (hij : i < j) (ha : l[i]? = some a) (hb : l[j]? = some b) : r a b := by
  have hi := (List.getElem?_eq_some_iff.1 ha)
  have hj := (List.getElem?_eq_some_iff.1 hb)
  have := List.pairwise_iff_getElem.1 h i j hi.1 hj.1 hij
  rwa [hi.2, hj.2] at this
/-- It stands there. -/
theorem SortOf.there (h : SortOf S R) (hk : Keys S) {d d' : Dv} (hp : R[k]? = some (p, d)) : look S p = some d ∧ SortOf (putD S p d') (R.set k (p, d')) := by
  have hl : look S p = some d := hk.look (h.1.mem_iff.1 (List.mem_of_getElem? hp))
  have e : R.set k (p, d') = R.map fun e => if e.1 = p then (p, d') else e := by
    apply List.ext_getElem?
    intro i
    rw [List.getElem?_set, List.getElem?_map]
    have hlt := (List.getElem?_eq_some_iff.1 hp).1
    by_cases hik : k = i
    · subst hik; rw [if_pos rfl, if_pos hlt, hp]; simp
    · rw [if_neg hik]
      cases hi : R[i]? with
      | none => rfl
      | some x =>
        have hne : x.1 ≠ p := by
          intro e
          rcases Nat.lt_or_gt_of_ne hik with hlt | hlt
          · have := pair_at h.keys hlt hp hi; exact this e.symm
          · have := pair_at h.keys hlt hi hp; exact this e
        simp [hne]
  refine ⟨hl, ?_, ?_⟩
  · rw [putD_keys _ _ _ (by rw [hl]; simp), e]
    exact h.1.map _
  · rw [e, List.pairwise_map]
    refine h.2.imp fun {a b} hab => ?_
    have e : ∀ x : List UInt8 × Dv, (if x.1 = p then (p, d') else x).1 = x.1 := fun x => by split <;> simp_all
    rw [e, e]; exact hab
/-- It does not stand there. -/
theorem SortOf.fresh (h : SortOf S R) {d' : Dv} (hlo : ∀ (i : Nat) (x : List UInt8 × Dv), i < k → R[i]? = some x → x.1 < p) (hhi : ∀ x, R[k]? = some x → p < x.1) (hkl : k ≤ R.length) :
    look S p = none ∧ SortOf (putD S p d') (R.take k ++ (p, d') :: R.drop k) := by
  have hafter : ∀ (i : Nat) (x : List UInt8 × Dv), k ≤ i → R[i]? = some x → p < x.1 := by
    intro i x hki hx
    rcases Nat.lt_or_eq_of_le hki with hlt | rfl
    · obtain ⟨y, hy⟩ := get_lt R (k := k) (by have := (List.getElem?_eq_some_iff.1 hx).1; omega)
      exact List.lt_trans (hhi y hy) (pair_at h.2 hlt hy hx)
    · exact hhi x hx
  have hn : look S p = none := look_none.2 fun e he hep => by
    obtain ⟨i, hi⟩ := List.mem_iff_getElem?.1 (h.1.mem_iff.2 he)
    rcases Nat.lt_or_ge i k with hik | hik
    · exact List.lt_irrefl p (by have := hlo i e hik hi; rwa [hep] at this)
    · exact List.lt_irrefl p (by have := hafter i e hik hi; rwa [hep] at this)
  refine ⟨hn, ?_, ?_⟩
  · rw [putD_new _ _ _ hn]
    have h1 : (R.take k ++ (p, d') :: R.drop k).Perm ((p, d') :: (R.take k ++ R.drop k)) := List.perm_middle
    rw [List.take_append_drop] at h1
    exact h1.trans ((h.1.cons _).trans (List.perm_append_comm (l₁ := [(p, d')])))
  · rw [List.pairwise_append]
    refine ⟨h.2.sublist (List.take_sublist _ _), List.pairwise_cons.2 ⟨fun x hx => ?_, h.2.sublist (List.drop_sublist _ _)⟩, fun a ha b hb => ?_⟩
    · obtain ⟨i, hi⟩ := List.mem_iff_getElem?.1 hx
      rw [List.getElem?_drop] at hi
      exact hafter _ x (by omega) hi
    · obtain ⟨i, hi⟩ := List.mem_iff_getElem?.1 ha
      rw [List.getElem?_take] at hi
      split at hi
      · rcases List.mem_cons.1 hb with hb | hb
        · rw [hb]; exact hlo i a (by assumption) hi
        · obtain ⟨j, hj⟩ := List.mem_iff_getElem?.1 hb
          rw [List.getElem?_drop] at hj
          exact List.lt_trans (hlo i a (by assumption) hi) (hafter _ b (by omega) hj)
      · cases hi
end
theorem Keys.step {S S' : DS} (h : Keys S) {p : List UInt8} {k : Nat} (hs : stepD S p k = some S') : Keys S' := by
  unfold stepD at hs
  split at hs
  · cases hs; exact h.put _ _
  · cases hs
theorem Keys.play : ∀ {l : List (List UInt8 × Nat)} {i : Nat} {S S' : DS}, Keys S → playS l i S = .inr S' → Keys S'
  | [], i, S, S', h, hp => by cases hp; exact h
  | x :: r, i, S, S', h, hp => by
    unfold playS at hp
    cases hs : stepD S x.1 x.2 with
    | none => rw [hs] at hp; cases hp
    | some S1 => rw [hs] at hp; exact Keys.play (h.step hs) hp
/-- A device alone. -/
def single (p : List UInt8) : Option Dv → DS
  | none => []
  | some d => [(p, d)]
theorem look_single (p : List UInt8) (o : Option Dv) : look (single p o) p = o := by
  cases o <;> simp [single, look]
theorem put_single (p : List UInt8) (o : Option Dv) (d : Dv) : putD (single p o) p d = single p (some d) := by
  unfold putD
  rw [look_single]
  cases o <;> simp [single]
theorem step_look {S S' : DS} {p q : List UInt8} {k : Nat} (hs : stepD S p k = some S') : look S' q = if q = p then some (doM ((look S p).getD dv0) k) else look S q := by
  unfold stepD at hs
  split at hs
  · cases hs; exact look_put _ _ _
  · cases hs
theorem step_single {S S' : DS} {p : List UInt8} {k : Nat} (hs : stepD S p k = some S') : stepD (single p (look S p)) p k = some (single p (look S' p)) := by
  have h2 := step_look (q := p) hs
  rw [if_pos rfl] at h2
  unfold stepD at hs ⊢
  rw [look_single]
  split at hs
  · rename_i hc; rw [if_pos hc, h2, put_single]
  · cases hs
/-- Each device is what its own events make of it. -/
theorem play_own (p : List UInt8) : ∀ {l : List (List UInt8 × Nat)} {i j : Nat} {S S' : DS}, playS l i S = .inr S' → playS (l.filter fun x => decide (x.1 = p)) j (single p (look S p)) = .inr (single p (look S' p))
  | [], i, j, S, S', hp => by cases hp; rfl
  | x :: r, i, j, S, S', hp => by
    unfold playS at hp
    cases hs : stepD S x.1 x.2 with
    | none => rw [hs] at hp; cases hp
    | some S1 =>
      rw [hs] at hp
      rw [List.filter_cons]
      by_cases hx : x.1 = p
      · rw [if_pos (by simpa using hx)]
        unfold playS
        rw [hx] at hs ⊢
        rw [step_single hs]
        exact play_own p hp
      · rw [if_neg (by simpa using hx)]
        have := step_look (q := p) hs
        rw [if_neg (fun e => hx e.symm)] at this
        rw [← this]
        exact play_own p hp
/-- Where it stops, and just there. -/
theorem play_stop : ∀ {l : List (List UInt8 × Nat)} {i n : Nat} {S : DS}, playS l i S = .inl n → i ≤ n ∧ n < i + l.length ∧ (∃ S', playS (l.take (n - i)) i S = .inr S') ∧ playS (l.take (n - i + 1)) i S = .inl n
  | [], i, n, S, hp => by cases hp
  | x :: r, i, n, S, hp => by
    have hp0 := hp
    unfold playS at hp
    cases hs : stepD S x.1 x.2 with
    | none =>
      rw [hs] at hp
      cases hp
      refine ⟨Nat.le_refl _, by simp, ⟨S, by rw [Nat.sub_self]; rfl⟩, ?_⟩
      rw [Nat.sub_self, Nat.zero_add, List.take_succ_cons, List.take_zero]
      unfold playS; rw [hs]
    | some S1 =>
      rw [hs] at hp
      obtain ⟨h1, h2, ⟨S', h3⟩, h4⟩ := play_stop hp
      refine ⟨by omega, by simp only [List.length_cons]; omega, ⟨S', ?_⟩, ?_⟩
      · rw [show n - i = (n - (i + 1)) + 1 by omega, List.take_succ_cons]
        unfold playS; rw [hs]; exact h3
      · rw [show n - i + 1 = (n - (i + 1) + 1) + 1 by omega, List.take_succ_cons]
        unfold playS; rw [hs]; exact h4
/-- One event more. -/
theorem play_snoc : ∀ {l : List (List UInt8 × Nat)} {i : Nat} {S S1 : DS} {x : List UInt8 × Nat}, playS l i S = .inr S1 → playS (l ++ [x]) i S = match stepD S1 x.1 x.2 with | none => .inl (i + l.length) | some S' => .inr S'
  | [], i, S, S1, x, hp => by
    cases hp
    show playS [x] i S = _
    unfold playS
    cases stepD S x.1 x.2 <;> rfl
  | y :: r, i, S, S1, x, hp => by
    unfold playS at hp
    cases hs : stepD S y.1 y.2 with
    | none => rw [hs] at hp; cases hp
    | some S2 =>
      rw [hs] at hp
      have := play_snoc (x := x) hp
      rw [List.cons_append]
      conv => lhs; unfold playS
      rw [hs]
      dsimp only
      rw [this, List.length_cons, show i + 1 + r.length = i + (r.length + 1) by omega]
/-- A stop stays where it is, whatever comes behind. -/
theorem play_more : ∀ {l r : List (List UInt8 × Nat)} {i n : Nat} {S : DS}, playS l i S = .inl n → playS (l ++ r) i S = .inl n
  | [], r, i, n, S, hp => by cases hp
  | y :: l, r, i, n, S, hp => by
    unfold playS at hp
    rw [List.cons_append]
    unfold playS
    cases hs : stepD S y.1 y.2 with
    | none => rw [hs] at hp; exact hp
    | some S2 => rw [hs] at hp; exact play_more hp
end Go.Proofs.YtjaendlcijmifaaGreatDoor

namespace Go.Proofs.YtjaendlcijmifaaGreatDoor.Wk
open Go Go.RowKit

/-- What a lookup may tell. -/
def Tells (l : List (Value × Value)) (key z r : Value) : Prop := (key, r) ∈ l ∨ r = z ∧ ∀ p ∈ l, p.1 ≠ key
/-- A map with the stamps of its entries. -/
def MapK (P : Program) (k : TypeId) (w : World) (b : Nat) (l : List (Value × Value)) : Prop :=
  ∃ es clock, w.heap[b]? = some (.map es clock) ∧ es.toList.map (fun e => (e.key, e.val)) = l ∧ (∀ e ∈ es.toList, ∃ q, keyOf P k e.key = some q) ∧ (∀ e ∈ es.toList, e.born < clock) ∧ (es.toList.map (·.born)).Nodup
theorem MapK.toL {P : Program} {k : TypeId} {w : World} {b : Nat} {l : List (Value × Value)} (h : MapK P k w b l) : MapL P k w b l := by
  obtain ⟨es, clock, h1, h2, h3, _⟩ := h
  exact ⟨es, clock, h1, h2, h3⟩
theorem MapK.chg {P : Program} {k : TypeId} {w w' : World} {M : Nat → Prop} {b : Nat} {l : List (Value × Value)} (h : MapK P k w b l) (hc : Chg M w w') (hb : ¬ M b) : MapK P k w' b l := by
  have hl := h.toL.lt
  obtain ⟨es, clock, h, r⟩ := h
  exact ⟨es, clock, (hc.block b hl hb).trans h, r⟩
/-- An entry has been found or laid; it waits for its value. -/
def MapP (P : Program) (k : TypeId) (w : World) (b : Nat) (l : List (Value × Value)) (stamp j : Nat) : Prop :=
  ∃ es clock, w.heap[b]? = some (.map es clock) ∧ es.toList.map (fun e => (e.key, e.val)) = l ∧ (∀ e ∈ es.toList, ∃ q, keyOf P k e.key = some q) ∧ (∀ e ∈ es.toList, e.born < clock) ∧ (es.toList.map (·.born)).Nodup ∧ ∃ e, es.toList[j]? = some e ∧ e.born = stamp
theorem MapP.toL {P : Program} {k : TypeId} {w : World} {b : Nat} {l : List (Value × Value)} {stamp j : Nat} (h : MapP P k w b l stamp j) : MapL P k w b l := by
  obtain ⟨es, clock, h1, h2, h3, _⟩ := h
  exact ⟨es, clock, h1, h2, h3⟩
theorem pair_set {l : List (Value × Value)} {key v u : Value} {j : Nat} (hj : l[j]? = some (key, v)) (hnd : (l.map (·.1)).Nodup) : (key, u) ∈ l.set j (key, u) ∧ ∀ r, (key, r) ∈ l.set j (key, u) → r = u := by
  have hjl := (List.getElem?_eq_some_iff.1 hj).1
  refine ⟨List.mem_iff_getElem?.2 ⟨j, by rw [List.getElem?_set, if_pos rfl, if_pos hjl]⟩, fun r hr => ?_⟩
  obtain ⟨i, hi⟩ := List.mem_iff_getElem?.1 hr
  rw [List.getElem?_set] at hi
  split at hi
  · simp only [Option.some.injEq, Prod.mk.injEq] at hi
    exact hi.2.symm
  · rename_i hne
    exfalso
    have h1 : (l.map (·.1))[i]? = some key := by rw [List.getElem?_map, hi]; rfl
    have h2 : (l.map (·.1))[j]? = some key := by rw [List.getElem?_map, hj]; rfl
    have hil := (List.getElem?_eq_some_iff.1 h1).1
    exact hne ((List.getElem?_inj hil hnd).1 (h1.trans h2.symm)).symm
section
variable {P : Program} {n : Nat} {ds : List Deferred} {Q : Po} {F : Fr} {w w' : World} {ops rest : List Oper} {d : Nat} {ty : TypeId} {pos : String} {aft : Array Edge}
theorem run_lookupOk {t k e : TypeId} {sz bytes : Nat} {agg : Bool} {z : Value} {b : Nat} {l : List (Value × Value)} {key : Value} {q : Lit} (ht : P.underlying t = some (.map k e)) (he : ElT P e sz bytes agg z) (Kd : Maps.Keyed P k) (h : MapL P k w b l) (hq : keyOf P k key = some q) :
    ∃ r f, (Instr.lookup t (.map (some b)) key true).run P w = .ok (.tuple #[r, .bool f]) w ∧ (f = true ∧ (key, r) ∈ l ∨ f = false ∧ r = z ∧ ∀ p ∈ l, p.1 ≠ key) := by
  obtain ⟨es, clock, hh, rfl, hk⟩ := h
  have hg := run_getObj_map (P := P) w b es clock hh
  rcases Kd.find w hq es.toList hk with ⟨hf, hn⟩ | ⟨j, e0, hf, hj, rfl⟩
  · refine ⟨z, false, ?_, .inr ⟨rfl, rfl, fun p hp => ?_⟩⟩
    · simp [Instr.lookup, run_underlying ht, hg, Kd.check w _ hq, hf, he.zeroValue]
    · obtain ⟨e1, he1, rfl⟩ := List.mem_map.1 hp; exact hn e1 he1
  · refine ⟨e0.val, true, ?_, .inl ⟨rfl, List.mem_map.2 ⟨e0, List.mem_of_getElem? hj, rfl⟩⟩⟩
    simp [Instr.lookup, run_underlying ht, hg, Kd.check w _ hq, hf]
/-- v, ok := m[k]. -/
theorem Wl.lookupOk {x i : Operand} {t k e : TypeId} {sz bytes : Nat} {agg : Bool} {z : Value} {b : Nat} {l : List (Value × Value)} {key : Value} {q : Lit} [ht : Und P t (.map k e)] [he : ElT P e sz bytes agg z] (Kd : Maps.Keyed P k) (h : MapL P k w b l) (hq : keyOf P k key = some q)
    (hx : ev n F x = .map (some b)) (hi : ev n F i = key) (c1 : ∀ r, (key, r) ∈ l → Wl P n ds Q ops rest (upd F d (.tuple #[r, .bool true])) w) (c2 : (∀ p ∈ l, p.1 ≠ key) → Wl P n ds Q ops rest (upd F d (.tuple #[z, .bool false])) w) :
    Wl P n ds Q ops (⟨some d, .lookup t x i true, ty, pos, aft, none⟩ :: rest) F w := by
  obtain ⟨r, f, hr, ⟨rfl, hp⟩ | ⟨rfl, rfl, hp⟩⟩ := run_lookupOk ht.h he Kd h hq
  · exact Wl.val (by simp only [execOp, hx, hi, Sem.run_bind, hr, Result.andThen_ok, Sem.run_pure]) (c1 r hp)
  · exact Wl.val (by simp only [execOp, hx, hi, Sem.run_bind, hr, Result.andThen_ok, Sem.run_pure]) (c2 hp)
/-- m[k] = u where k was there. -/
theorem Wl.mapSet {x i y : Operand} {t k e : TypeId} {b : Nat} {l : List (Value × Value)} {key v0 u : Value} {q : Lit} [ht : Und P t (.map k e)] (Kd : Maps.Keyed P k) (h : MapL P k w b l) (hq : keyOf P k key = some q) (hin : (key, v0) ∈ l) (hnd : (l.map (·.1)).Nodup)
    (hx : ev n F x = .map (some b)) (hi : ev n F i = key) (hy : ev n F y = u) (c : ∀ w' l', MapL P k w' b l' → (key, u) ∈ l' → (∀ r, (key, r) ∈ l' → r = u) → Chg (fun j => j = b) w w' → Wl P n ds Q ops rest F w') :
    Wl P n ds Q ops (⟨none, .mapUpdate t x i y, ty, pos, aft, none⟩ :: rest) F w := by
  have hlt := h.lt
  obtain ⟨es, clock, hh, rfl, hk⟩ := h
  have hg := run_getObj_map (P := P) w b es clock hh
  rcases Kd.find w hq es.toList hk with ⟨hf, hn⟩ | ⟨j, e0, hf, hj, rfl⟩
  · obtain ⟨e1, he1, e2⟩ := List.mem_map.1 hin
    simp only [Prod.mk.injEq] at e2
    exact absurd e2.1 (hn e1 he1)
  · let es' := es.modify j fun e => { e with key := e0.key, val := u }
    have hl' : es'.toList = es.toList.set j { e0 with val := u } := by
      have hjs := (List.getElem?_eq_some_iff.1 hj)
      apply List.ext_getElem?
      intro m
      simp only [es', Array.getElem?_toList, Array.getElem?_modify, List.getElem?_set]
      by_cases hm : j = m
      · subst hm
        simp only [if_true]
        rw [if_pos hjs.1]
        rw [Array.getElem?_toList] at hj
        rw [hj]; rfl
      · rw [if_neg hm, if_neg hm]
    have h1 : (w.heap.setIfInBounds b (.map es' clock))[b]? = some (.map es' clock) := by simp [Array.getElem?_setIfInBounds, hlt]
    have hset : (setObj b (.map es' clock)).run P w = .ok () { w with heap := w.heap.setIfInBounds b (.map es' clock) } := by simp [setObj, Sem.run, hh]
    have hpj : (es.toList.map (fun e => (e.key, e.val)))[j]? = some (e0.key, e0.val) := by rw [List.getElem?_map, hj]; rfl
    have hmap : es'.toList.map (fun e => (e.key, e.val)) = (es.toList.map (fun e => (e.key, e.val))).set j (e0.key, u) := by rw [hl', List.map_set]
    obtain ⟨p1, p2⟩ := pair_set (u := u) hpj hnd
    refine Wl.unit (w' := { w with heap := w.heap.setIfInBounds b (.map es' clock) }) ?_ (c _ _ ⟨_, _, h1, hmap, fun e he => ?_⟩ p1 p2 ⟨rfl, rfl, rfl, by simp, fun j _ hj => Array.getElem?_setIfInBounds_ne (Ne.symm hj)⟩)
    · have hst := Kd.stays w hq
      have hj' : es[j]? = some e0 := by rw [Array.getElem?_toList] at hj; exact hj
      simp [execOp, hx, hi, hy, Instr.mapUpdate, run_underlying ht.h, hg, Kd.check w _ hq, hf, hj', hst, hset, es']
    · rw [hl'] at he
      rcases List.mem_or_eq_of_mem_set he with he | rfl
      · exact hk e he
      · exact hk e0 (List.mem_of_getElem? hj)
theorem Wl.mapEntry {x i : Operand} {t k e sz bytes : Nat} {agg : Bool} {z : Value} {b : Nat} {l : List (Value × Value)} {key : Value} {q : Lit} [ht : Und P t (.map k e)] [he : ElT P e sz bytes agg z] (Kd : Maps.Keyed P k) (h : MapK P k w b l) (hq : keyOf P k key = some q)
    (hx : ev n F x = .map (some b)) (hi : ev n F i = key)
    (c : ∀ w' l' j v stamp, MapP P k w' b l' stamp j → (l' = l ++ [(key, z)] ∧ j = l.length ∧ v = z ∧ (∀ p ∈ l, p.1 ≠ key) ∨ l' = l ∧ l[j]? = some (key, v)) → Chg (fun j => j = b) w w' → Wl P n ds Q ops rest (upd F d (.tuple #[v, vi (stamp : Nat)])) w') :
    Wl P n ds Q ops (⟨some d, .mapEntry t x i, ty, pos, aft, none⟩ :: rest) F w := by
  have hlt := h.toL.lt
  obtain ⟨es, clock, hh, rfl, hk, hb, hnb⟩ := h
  have hg := run_getObj_map (P := P) w b es clock hh
  have hrun : ∀ o, (setObj b o).run P w = .ok () { w with heap := w.heap.setIfInBounds b o } ∨ True := fun _ => .inr trivial
  rcases Kd.find w hq es.toList hk with ⟨hf, hn⟩ | ⟨j, e0, hf, hj, rfl⟩
  · let es' := es.push { key, val := z, born := clock }
    have h1 : (w.heap.setIfInBounds b (.map es' (clock + 1)))[b]? = some (.map es' (clock + 1)) := by simp [Array.getElem?_setIfInBounds, hlt]
    have hset : (setObj b (.map es' (clock + 1))).run P w = .ok () { w with heap := w.heap.setIfInBounds b (.map es' (clock + 1)) } := by simp [setObj, Sem.run, hh]
    refine Wl.val (w' := { w with heap := w.heap.setIfInBounds b (.map es' (clock + 1)) }) (v := .tuple #[z, vi (clock : Nat)]) ?_ (c _ _ es.toList.length z clock ⟨es', clock + 1, h1, rfl, fun e he => ?_, fun e he => ?_, ?_, ⟨{ key, val := z, born := clock }, ?_, rfl⟩⟩ (.inl ⟨by simp [es'], by simp, rfl, fun p hp => ?_⟩) ⟨rfl, rfl, rfl, by simp, fun j _ hj => Array.getElem?_setIfInBounds_ne (Ne.symm hj)⟩)
    · simp [execOp, hx, hi, Instr.mapEntry, run_underlying ht.h, hg, Kd.check w _ hq, hf, he.zeroValue, hset, es', goInt]
    · simp only [es', Array.toList_push, List.mem_append, List.mem_singleton] at he
      rcases he with he | rfl
      · exact hk e he
      · exact ⟨q, hq⟩
    · simp only [es', Array.toList_push, List.mem_append, List.mem_singleton] at he
      rcases he with he | rfl
      · have := hb e he; omega
      · exact Nat.lt_succ_self _
    · simp only [es', Array.toList_push, List.map_append, List.map_cons, List.map_nil]
      rw [List.nodup_append]
      refine ⟨hnb, by simp, fun a ha c hc => ?_⟩
      obtain ⟨e1, he1, rfl⟩ := List.mem_map.1 ha
      simp only [List.mem_singleton] at hc
      have := hb e1 he1
      omega
    · simp [es']
    · obtain ⟨e1, he1, rfl⟩ := List.mem_map.1 hp
      exact hn e1 he1
  · let es' := es.modify j fun e => { e with key := e0.key }
    have hl' : es'.toList = es.toList := by
      apply List.ext_getElem?
      intro m
      simp only [es', Array.getElem?_toList, Array.getElem?_modify]
      by_cases hm : j = m
      · subst hm
        simp only [if_true]
        rw [Array.getElem?_toList] at hj
        rw [hj]; rfl
      · rw [if_neg hm]
    have h1 : (w.heap.setIfInBounds b (.map es' clock))[b]? = some (.map es' clock) := by simp [Array.getElem?_setIfInBounds, hlt]
    have hset : (setObj b (.map es' clock)).run P w = .ok () { w with heap := w.heap.setIfInBounds b (.map es' clock) } := by simp [setObj, Sem.run, hh]
    refine Wl.val (w' := { w with heap := w.heap.setIfInBounds b (.map es' clock) }) (v := .tuple #[e0.val, vi (e0.born : Nat)]) ?_ (c _ _ j e0.val e0.born ⟨es', clock, h1, by rw [hl'], by rw [hl']; exact hk, by rw [hl']; exact hb, by rw [hl']; exact hnb, ⟨e0, by rw [hl']; exact hj, rfl⟩⟩ (.inr ⟨rfl, by rw [List.getElem?_map, hj]; rfl⟩) ⟨rfl, rfl, rfl, by simp, fun j _ hj => Array.getElem?_setIfInBounds_ne (Ne.symm hj)⟩)
    have hst := Kd.stays w hq
    have hj' : es[j]? = some e0 := by rw [Array.getElem?_toList] at hj; exact hj
    simp [execOp, hx, hi, Instr.mapEntry, run_underlying ht.h, hg, Kd.check w _ hq, hf, hj', hst, hset, es', goInt]
theorem Wl.entryStore {x s y : Operand} {t k : TypeId} {b : Nat} {l : List (Value × Value)} {key v u : Value} {stamp j : Nat} (h : MapP P k w b l stamp j) (hj : l[j]? = some (key, v))
    (hx : ev n F x = .map (some b)) (hs : ev n F s = vi (stamp : Nat)) (hy : ev n F y = u) (c : ∀ w', MapK P k w' b (l.set j (key, u)) → Chg (fun j => j = b) w w' → Wl P n ds Q ops rest F w') :
    Wl P n ds Q ops (⟨none, .entryStore t x s y, ty, pos, aft, none⟩ :: rest) F w := by
  have hlt := h.toL.lt
  obtain ⟨es, clock, hh, rfl, hk, hb, hnb, e0, hj0, rfl⟩ := h
  have hg := run_getObj_map (P := P) w b es clock hh
  rw [List.getElem?_map, hj0] at hj
  simp only [Option.map_some, Option.some.injEq, Prod.mk.injEq] at hj
  obtain ⟨rfl, rfl⟩ := hj
  let es' := es.modify j fun e => { e with val := u }
  have hj' : es[j]? = some e0 := by rw [Array.getElem?_toList] at hj0; exact hj0
  have hl' : es'.toList = es.toList.set j { e0 with val := u } := by
    have hjs := (List.getElem?_eq_some_iff.1 hj0)
    apply List.ext_getElem?
    intro m
    simp only [es', Array.getElem?_toList, Array.getElem?_modify, List.getElem?_set]
    by_cases hm : j = m
    · subst hm
      simp only [if_true]
      rw [if_pos hjs.1, hj']; rfl
    · rw [if_neg hm, if_neg hm]
  have hfind : es.findIdx? (fun e => (e.born : Int) == (e0.born : Int)) = some j := by
    have : es.toList.findIdx? (fun e => (e.born : Int) == (e0.born : Int)) = some j := by
      rw [List.findIdx?_eq_some_iff_getElem]
      have hjs := List.getElem?_eq_some_iff.1 hj0
      refine ⟨hjs.1, by rw [hjs.2]; simp, fun i hi hc => ?_⟩
      have hlt2 : i < es.toList.length := Nat.lt_trans hi hjs.1
      have e1 : (es.toList.map (·.born))[i]? = some e0.born := by
        rw [List.getElem?_map, List.getElem?_eq_getElem hlt2]
        have : (es.toList[i]).born = e0.born := by simp only [beq_iff_eq] at hc; omega
        rw [Option.map_some, this]
      have e2 : (es.toList.map (·.born))[j]? = some e0.born := by rw [List.getElem?_map, hj0]; rfl
      have := (List.getElem?_inj (List.getElem?_eq_some_iff.1 e1).1 hnb).1 (e1.trans e2.symm)
      omega
    rwa [← List.findIdx?_toArray, Array.toArray_toList] at this
  have h1 : (w.heap.setIfInBounds b (.map es' clock))[b]? = some (.map es' clock) := by simp [Array.getElem?_setIfInBounds, hlt]
  have hset : (setObj b (.map es' clock)).run P w = .ok () { w with heap := w.heap.setIfInBounds b (.map es' clock) } := by simp [setObj, Sem.run, hh]
  refine Wl.unit (w' := { w with heap := w.heap.setIfInBounds b (.map es' clock) }) ?_ (c _ ⟨es', clock, h1, by rw [hl', List.map_set], fun e he => ?_, fun e he => ?_, ?_⟩ ⟨rfl, rfl, rfl, by simp, fun j _ hj => Array.getElem?_setIfInBounds_ne (Ne.symm hj)⟩)
  · simp [execOp, hx, hs, hy, Instr.entryStore, hg, asInt, asIntOf, hfind, hset, es']
  · rw [hl'] at he
    rcases List.mem_or_eq_of_mem_set he with he | rfl
    · exact hk e he
    · exact hk e0 (List.mem_of_getElem? hj0)
  · rw [hl'] at he
    rcases List.mem_or_eq_of_mem_set he with he | rfl
    · exact hb e he
    · exact hb e0 (List.mem_of_getElem? hj0)
  · rw [hl', List.map_set]
    have e2 : (es.toList.map (·.born))[j]? = some e0.born := by rw [List.getElem?_map, hj0]; rfl
    have : (es.toList.map (·.born)).set j e0.born = es.toList.map (·.born) := by
      apply List.ext_getElem?
      intro m
      rw [List.getElem?_set]
      split
      · rename_i hm
        subst hm
        rw [if_pos (List.getElem?_eq_some_iff.1 e2).1, e2]
      · rfl
    show ((es.toList.map (·.born)).set j e0.born).Nodup
    rw [this]; exact hnb
theorem Wl.makeMapK {t : TypeId} {k : TypeId} (c : ∀ w', MapK P k w' w.heap.size [] → New w w' → w'.heap.size = w.heap.size + 1 → Wl P n ds Q ops rest (upd F d (.map (some w.heap.size))) w') :
    Wl P n ds Q ops (⟨some d, .makeMap t none, ty, pos, aft, none⟩ :: rest) F w := by
  refine Wl.val (w' := w.alloc (.map #[] 0)) (v := .map (some w.heap.size)) ?_ (c _ ⟨#[], 0, heap_alloc_new w _, by simp, by simp, by simp, by simp⟩ (Chg.alloc _ _ _) (by simp))
  simp [execOp, Instr.makeMap]
theorem Wq.lookupT {C : World → Prop} {K : Fr → Prop} {x i : Operand} {t k e sz bytes : Nat} {agg : Bool} {z r0 : Value} {b : Nat} {key : Value} {q : Lit} [ht : Und P t (.map k e)] [he : ElT P e sz bytes agg z] (Kd : Maps.Keyed P k) (hC : ∀ w, C w → ∃ l, MapL P k w b l ∧ ∀ r, Tells l key z r → r = r0) (hq : keyOf P k key = some q)
    (hx : ev n F x = .map (some b)) (hi : ev n F i = key) (c : Wq P n ds C K ops rest (upd F d r0)) : Wq P n ds C K ops (⟨some d, .lookup t x i false, ty, pos, aft, none⟩ :: rest) F := by
  refine Wq.val (fun w hw => ?_) c
  obtain ⟨l, h, hr⟩ := hC w hw
  obtain ⟨r, h1, h2⟩ := run_lookup ht.h he Kd h hq
  rw [← hr r h2]
  simp only [execOp, hx, hi, Sem.run_bind, h1, Result.andThen_ok, Sem.run_pure]
theorem Wq.buildF {C : World → Prop} {K : Fr → Prop} {t : TypeId} {m sz bytes : Nat} {agg : Bool} {z : Value} {ps : List (Nat × Operand)} {parts : List (Nat × Value)} [hf : Flat P t m] [he : ElT P t sz bytes agg z] (hz : z.cells.size = m) (hps : ps.map (fun p => (p.1, ev n F p.2)) = parts) (hp : ∀ p ∈ parts, p.1 < m ∧ p.2.cells = #[p.2])
    (c : Wq P n ds C K ops rest (upd F d (.agg (setAll z.cells parts)))) : Wq P n ds C K ops (⟨some d, .build t ps.toArray, ty, pos, aft, none⟩ :: rest) F := by
  refine Wq.val (fun w _ => ?_) c
  subst hps
  have := run_buildF (P := P) (w := w) hf he hz hp
  simp only [execOp, List.map_toArray, Sem.run_bind]
  rw [this]; rfl
/-- An array of elements of one cell by its parts. -/
theorem Wl.buildA {t e m sz bytes ebytes : Nat} {agg eagg : Bool} {z ez : Value} {ps : List (Nat × Operand)} {parts : List (Nat × Value)} {cs : List Value} [ht : Und P t (.array m e)] [hee : ElT P e 1 ebytes eagg ez] [he : ElT P t sz bytes agg z] (hz : z.cells.size = m) (hps : ps.map (fun p => (p.1, ev n F p.2)) = parts) (hp : ∀ p ∈ parts, p.1 < m ∧ p.2.cells = #[p.2])
    (hcs : setAll z.cells parts = cs.toArray) (c : Wl P n ds Q ops rest (upd F d (.agg cs.toArray)) w) : Wl P n ds Q ops (⟨some d, .build t ps.toArray, ty, pos, aft, none⟩ :: rest) F w := by
  refine Wl.val ?_ c
  subst hps
  have hfill := fill_flat (m := m) (places := fun i => some (i * 1, 1)) _ z.cells hz (fun i _ => by rw [Nat.mul_one]) hp
  have : (Instr.build t (ps.map (fun p => (p.1, ev n F p.2))).toArray).run P w = .ok (.agg cs.toArray) w := by
    simp only [Instr.build, Sem.run_bind, he.zeroValue, Result.andThen_ok, run_underlying ht.h, hee.sizeOf, hfill, hcs, Sem.run_pure]
  simp only [execOp, List.map_toArray, Sem.run_bind]
  rw [this]; rfl
end
end Go.Proofs.YtjaendlcijmifaaGreatDoor.Wk

namespace Go.Proofs.YtjaendlcijmifaaGreatDoor
open Go Wk
open Go.RowKit (Below)
attribute [local irreducible] Go.Calls

section
variable {P : Program} {n : Nat} {ds : List Deferred} {Q : Po} {F : Fr} {w : World} {ops rest : List Oper} {d : Nat} {ty : TypeId} {pos : String} {aft : Array Edge}
theorem Wk.Wl.mapInsP {x i y : Operand} {t k e : TypeId} {b : Nat} {l : List (Value × Value)} {key u : Value} {q : Lit} [ht : Und P t (.map k e)] (Kd : Maps.Keyed P k) (h : MapL P k w b l) (hq : keyOf P k key = some q) (hn : ∀ p ∈ l, p.1 ≠ key)
    (hx : ev n F x = .map (some b)) (hi : ev n F i = key) (hy : ev n F y = u) (c : ∀ w', MapL P k w' b (l ++ [(key, u)]) → Chg (fun j => j = b) w w' → w'.heap.size = w.heap.size → Wl P n ds Q ops rest F w') :
    Wl P n ds Q ops (⟨none, .insert t x i y, ty, pos, aft, none⟩ :: rest) F w := by
  have hlt := h.lt
  obtain ⟨es, clock, hh, rfl, hk⟩ := h
  have hg := run_getObj_map (P := P) w b es clock hh
  rcases Kd.find w hq es.toList hk with ⟨hf, _⟩ | ⟨j, e0, hf, hj, rfl⟩
  · have h1 : (w.heap.setIfInBounds b (.map (es.push { key, val := u, born := clock }) (clock + 1)))[b]? = some (.map (es.push { key, val := u, born := clock }) (clock + 1)) := by simp [Array.getElem?_setIfInBounds, hlt]
    have hset : (setObj b (.map (es.push { key, val := u, born := clock }) (clock + 1))).run P w = .ok () { w with heap := w.heap.setIfInBounds b (.map (es.push { key, val := u, born := clock }) (clock + 1)) } := by simp [setObj, Sem.run, hh]
    refine Wl.unit (w' := { w with heap := w.heap.setIfInBounds b (.map (es.push { key, val := u, born := clock }) (clock + 1)) }) ?_ (c _ ⟨_, _, h1, by simp, fun e he => ?_⟩ ⟨rfl, rfl, rfl, by simp, fun j _ hj => Array.getElem?_setIfInBounds_ne (Ne.symm hj)⟩ (by simp))
    · simp [execOp, hx, hi, hy, Instr.mapUpdate, run_underlying ht.h, hg, Kd.check w _ hq, hf, hset]
    · simp only [Array.toList_push, List.mem_append, List.mem_singleton] at he
      rcases he with he | rfl
      · exact hk e he
      · exact ⟨q, hq⟩
  · exfalso
    have hm := List.mem_of_getElem? hj
    exact hn (e0.key, e0.val) (List.mem_map.2 ⟨e0, hm, rfl⟩) rfl
end
abbrev tDev : TypeId := 59
def dvC (p : List UInt8) (d : Dv) : List Value := [vs p, .bool d.bo, .bool d.on, .bool d.sl, .bool d.go]
abbrev dvV (p : List UInt8) (d : Dv) : Value := .agg (dvC p d).toArray
theorem dvC_one (p : List UInt8) (d : Dv) : ∀ c ∈ dvC p d, c.oneCell' = true := by
  intro c hc
  simp only [dvC, List.mem_cons, List.not_mem_nil, or_false] at hc
  rcases hc with rfl | rfl | rfl | rfl | rfl <;> rfl
def mayF (k : Nat) : Nat := [0, 46, 48, 50, 52, 54, 56, 58, 60, 62].getD k 0
def doF (k : Nat) : Nat := [0, 47, 49, 51, 53, 55, 57, 59, 61, 63].getD k 0
def ruleV (k : Nat) : Value := .agg #[.func (.func (mayF k)) #[] #[], .func (.func (doF k)) #[] #[]]
def ruleL : List (Value × Value) := [1, 2, 3, 4, 5, 6, 7, 8, 9].map fun k : Nat => (.int .u8 k, ruleV k)
theorem kinds9 {k : Nat} (h0 : 1 ≤ k) (h9 : k ≤ 9) : k = 1 ∨ k = 2 ∨ k = 3 ∨ k = 4 ∨ k = 5 ∨ k = 6 ∨ k = 7 ∨ k = 8 ∨ k = 9 := by omega
theorem may1 {w : World} {p : List UInt8} {d : Dv} : Calls Tryz.prog 46 #[dvV p d] w (Ret fun r w' => r = .bool (mayM d 1) ∧ New w w') := by
  rcases d with ⟨bo, on, sl, go⟩
  cases go <;> cases bo <;> (
    refine calls_of_Wc Tryz.func46 rfl Tryz.ntmps46 rfl ?_
    (repeat' (first | refine Wc.seq ?_ | refine Wc.region ?_))
    refine Wl.box rfl fun w1 b1 n1 s1 => ?_
    replace b1 : Bk w1 w.heap.size tDev (dvC p _) := b1
    (repeat' (first | refine Wl.assignE (by conv => { lhs; whnf }) ?_ | refine Wl.nil ?_ | refine Qseq.normal ?_ | refine Wc.seq ?_ | refine Wc.region ?_ | refine Wl.fieldAddr rfl rfl ?_))
    (repeat' (refine Wl.load1 rfl (b1.cell rfl) ?_; (repeat' (first | refine Wl.moveE (by conv => { lhs; whnf }) ?_ | refine Wl.assignE (by conv => { lhs; whnf }) ?_ | refine Wl.nil ?_ | refine Wl.guardY rfl rfl ?_ | refine Wl.guardN rfl rfl ?_ | refine Wl.pickTE rfl (by conv => { lhs; whnf }) ?_ | refine Wl.pickFE rfl (by conv => { lhs; whnf }) ?_ | refine Wl.notB rfl ?_ | refine Qseq.normal ?_ | refine Wc.ret ?_ | refine Wl.fieldAddr rfl rfl ?_))))
    exact Qfn.ret1 rfl rfl ⟨_, rfl, rfl, n1⟩)
theorem may2 {w : World} {p : List UInt8} {d : Dv} : Calls Tryz.prog 48 #[dvV p d] w (Ret fun r w' => r = .bool (mayM d 2) ∧ New w w') := by
  rcases d with ⟨bo, on, sl, go⟩
  cases bo <;> cases on <;> cases sl <;> (
    refine calls_of_Wc Tryz.func48 rfl Tryz.ntmps48 rfl ?_
    (repeat' (first | refine Wc.seq ?_ | refine Wc.region ?_))
    refine Wl.box rfl fun w1 b1 n1 s1 => ?_
    replace b1 : Bk w1 w.heap.size tDev (dvC p _) := b1
    (repeat' (first | refine Wl.assignE (by conv => { lhs; whnf }) ?_ | refine Wl.nil ?_ | refine Qseq.normal ?_ | refine Wc.seq ?_ | refine Wc.region ?_ | refine Wl.fieldAddr rfl rfl ?_))
    (repeat' (refine Wl.load1 rfl (b1.cell rfl) ?_; (repeat' (first | refine Wl.moveE (by conv => { lhs; whnf }) ?_ | refine Wl.assignE (by conv => { lhs; whnf }) ?_ | refine Wl.nil ?_ | refine Wl.guardY rfl rfl ?_ | refine Wl.guardN rfl rfl ?_ | refine Wl.pickTE rfl (by conv => { lhs; whnf }) ?_ | refine Wl.pickFE rfl (by conv => { lhs; whnf }) ?_ | refine Wl.notB rfl ?_ | refine Qseq.normal ?_ | refine Wc.ret ?_ | refine Wl.fieldAddr rfl rfl ?_))))
    exact Qfn.ret1 rfl rfl ⟨_, rfl, rfl, n1⟩)
theorem may3 {w : World} {p : List UInt8} {d : Dv} : Calls Tryz.prog 50 #[dvV p d] w (Ret fun r w' => r = .bool (mayM d 3) ∧ New w w') := by
  rcases d with ⟨bo, on, sl, go⟩
  cases on <;> cases go <;> (
    refine calls_of_Wc Tryz.func50 rfl Tryz.ntmps50 rfl ?_
    (repeat' (first | refine Wc.seq ?_ | refine Wc.region ?_))
    refine Wl.box rfl fun w1 b1 n1 s1 => ?_
    replace b1 : Bk w1 w.heap.size tDev (dvC p _) := b1
    (repeat' (first | refine Wl.assignE (by conv => { lhs; whnf }) ?_ | refine Wl.nil ?_ | refine Qseq.normal ?_ | refine Wc.seq ?_ | refine Wc.region ?_ | refine Wl.fieldAddr rfl rfl ?_))
    (repeat' (refine Wl.load1 rfl (b1.cell rfl) ?_; (repeat' (first | refine Wl.moveE (by conv => { lhs; whnf }) ?_ | refine Wl.assignE (by conv => { lhs; whnf }) ?_ | refine Wl.nil ?_ | refine Wl.guardY rfl rfl ?_ | refine Wl.guardN rfl rfl ?_ | refine Wl.pickTE rfl (by conv => { lhs; whnf }) ?_ | refine Wl.pickFE rfl (by conv => { lhs; whnf }) ?_ | refine Wl.notB rfl ?_ | refine Qseq.normal ?_ | refine Wc.ret ?_ | refine Wl.fieldAddr rfl rfl ?_))))
    exact Qfn.ret1 rfl rfl ⟨_, rfl, rfl, n1⟩)
theorem may4 {w : World} {p : List UInt8} {d : Dv} : Calls Tryz.prog 52 #[dvV p d] w (Ret fun r w' => r = .bool (mayM d 4) ∧ New w w') := by
  rcases d with ⟨bo, on, sl, go⟩
  (
    refine calls_of_Wc Tryz.func52 rfl Tryz.ntmps52 rfl ?_
    (repeat' (first | refine Wc.seq ?_ | refine Wc.region ?_))
    refine Wl.box rfl fun w1 b1 n1 s1 => ?_
    replace b1 : Bk w1 w.heap.size tDev (dvC p _) := b1
    (repeat' (first | refine Wl.assignE (by conv => { lhs; whnf }) ?_ | refine Wl.nil ?_ | refine Qseq.normal ?_ | refine Wc.seq ?_ | refine Wc.region ?_ | refine Wl.fieldAddr rfl rfl ?_))
    (repeat' (refine Wl.load1 rfl (b1.cell rfl) ?_; (repeat' (first | refine Wl.assignE (by conv => { lhs; whnf }) ?_ | refine Wl.nil ?_ | refine Qseq.normal ?_ | refine Wc.ret ?_))))
    exact Qfn.ret1 rfl rfl ⟨_, rfl, rfl, n1⟩)
theorem may5 {w : World} {p : List UInt8} {d : Dv} : Calls Tryz.prog 54 #[dvV p d] w (Ret fun r w' => r = .bool (mayM d 5) ∧ New w w') := by
  rcases d with ⟨bo, on, sl, go⟩
  cases bo <;> cases sl <;> (
    refine calls_of_Wc Tryz.func54 rfl Tryz.ntmps54 rfl ?_
    (repeat' (first | refine Wc.seq ?_ | refine Wc.region ?_))
    refine Wl.box rfl fun w1 b1 n1 s1 => ?_
    replace b1 : Bk w1 w.heap.size tDev (dvC p _) := b1
    (repeat' (first | refine Wl.assignE (by conv => { lhs; whnf }) ?_ | refine Wl.nil ?_ | refine Qseq.normal ?_ | refine Wc.seq ?_ | refine Wc.region ?_ | refine Wl.fieldAddr rfl rfl ?_))
    (repeat' (refine Wl.load1 rfl (b1.cell rfl) ?_; (repeat' (first | refine Wl.moveE (by conv => { lhs; whnf }) ?_ | refine Wl.assignE (by conv => { lhs; whnf }) ?_ | refine Wl.nil ?_ | refine Wl.guardY rfl rfl ?_ | refine Wl.guardN rfl rfl ?_ | refine Wl.pickTE rfl (by conv => { lhs; whnf }) ?_ | refine Wl.pickFE rfl (by conv => { lhs; whnf }) ?_ | refine Wl.notB rfl ?_ | refine Qseq.normal ?_ | refine Wc.ret ?_ | refine Wl.fieldAddr rfl rfl ?_))))
    exact Qfn.ret1 rfl rfl ⟨_, rfl, rfl, n1⟩)
theorem may6 {w : World} {p : List UInt8} {d : Dv} : Calls Tryz.prog 56 #[dvV p d] w (Ret fun r w' => r = .bool (mayM d 6) ∧ New w w') := by
  rcases d with ⟨bo, on, sl, go⟩
  (
    refine calls_of_Wc Tryz.func56 rfl Tryz.ntmps56 rfl ?_
    (repeat' (first | refine Wc.seq ?_ | refine Wc.region ?_))
    refine Wl.box rfl fun w1 b1 n1 s1 => ?_
    replace b1 : Bk w1 w.heap.size tDev (dvC p _) := b1
    (repeat' (first | refine Wl.assignE (by conv => { lhs; whnf }) ?_ | refine Wl.nil ?_ | refine Qseq.normal ?_ | refine Wc.seq ?_ | refine Wc.region ?_ | refine Wl.fieldAddr rfl rfl ?_))
    (repeat' (refine Wl.load1 rfl (b1.cell rfl) ?_; (repeat' (first | refine Wl.assignE (by conv => { lhs; whnf }) ?_ | refine Wl.nil ?_ | refine Qseq.normal ?_ | refine Wc.ret ?_))))
    exact Qfn.ret1 rfl rfl ⟨_, rfl, rfl, n1⟩)
theorem may7 {w : World} {p : List UInt8} {d : Dv} : Calls Tryz.prog 58 #[dvV p d] w (Ret fun r w' => r = .bool (mayM d 7) ∧ New w w') := by
  rcases d with ⟨bo, on, sl, go⟩
  (
    refine calls_of_Wc Tryz.func58 rfl Tryz.ntmps58 rfl ?_
    (repeat' (first | refine Wc.seq ?_ | refine Wc.region ?_))
    refine Wl.box rfl fun w1 b1 n1 s1 => ?_
    replace b1 : Bk w1 w.heap.size tDev (dvC p _) := b1
    (repeat' (first | refine Wl.assignE (by conv => { lhs; whnf }) ?_ | refine Wl.nil ?_ | refine Qseq.normal ?_ | refine Wc.seq ?_ | refine Wc.region ?_ | refine Wl.fieldAddr rfl rfl ?_))
    (repeat' (refine Wl.load1 rfl (b1.cell rfl) ?_; (repeat' (first | refine Wl.assignE (by conv => { lhs; whnf }) ?_ | refine Wl.nil ?_ | refine Qseq.normal ?_ | refine Wc.ret ?_))))
    exact Qfn.ret1 rfl rfl ⟨_, rfl, rfl, n1⟩)
theorem may8 {w : World} {p : List UInt8} {d : Dv} : Calls Tryz.prog 60 #[dvV p d] w (Ret fun r w' => r = .bool (mayM d 8) ∧ New w w') := by
  rcases d with ⟨bo, on, sl, go⟩
  cases go <;> cases bo <;> cases on <;> (
    refine calls_of_Wc Tryz.func60 rfl Tryz.ntmps60 rfl ?_
    (repeat' (first | refine Wc.seq ?_ | refine Wc.region ?_))
    refine Wl.box rfl fun w1 b1 n1 s1 => ?_
    replace b1 : Bk w1 w.heap.size tDev (dvC p _) := b1
    (repeat' (first | refine Wl.assignE (by conv => { lhs; whnf }) ?_ | refine Wl.nil ?_ | refine Qseq.normal ?_ | refine Wc.seq ?_ | refine Wc.region ?_ | refine Wl.fieldAddr rfl rfl ?_))
    (repeat' (refine Wl.load1 rfl (b1.cell rfl) ?_; (repeat' (first | refine Wl.moveE (by conv => { lhs; whnf }) ?_ | refine Wl.assignE (by conv => { lhs; whnf }) ?_ | refine Wl.nil ?_ | refine Wl.guardY rfl rfl ?_ | refine Wl.guardN rfl rfl ?_ | refine Wl.pickTE rfl (by conv => { lhs; whnf }) ?_ | refine Wl.pickFE rfl (by conv => { lhs; whnf }) ?_ | refine Wl.notB rfl ?_ | refine Qseq.normal ?_ | refine Wc.ret ?_ | refine Wl.fieldAddr rfl rfl ?_))))
    exact Qfn.ret1 rfl rfl ⟨_, rfl, rfl, n1⟩)
theorem may9 {w : World} {p : List UInt8} {d : Dv} : Calls Tryz.prog 62 #[dvV p d] w (Ret fun r w' => r = .bool (mayM d 9) ∧ New w w') := by
  rcases d with ⟨bo, on, sl, go⟩
  (
    refine calls_of_Wc Tryz.func62 rfl Tryz.ntmps62 rfl ?_
    (repeat' (first | refine Wc.seq ?_ | refine Wc.region ?_))
    refine Wl.box rfl fun w1 b1 n1 s1 => ?_
    replace b1 : Bk w1 w.heap.size tDev (dvC p _) := b1
    (repeat' (first | refine Wl.assignE (by conv => { lhs; whnf }) ?_ | refine Wl.nil ?_ | refine Qseq.normal ?_ | refine Wc.seq ?_ | refine Wc.region ?_ | refine Wc.ret ?_))
    (repeat' (refine Wl.load1 rfl (b1.cell rfl) ?_; skip))
    exact Qfn.ret1 rfl rfl ⟨_, rfl, rfl, n1⟩)
theorem do1 {w : World} {b : Nat} {p : List UInt8} {d : Dv} (h : Bk w b tDev (dvC p d)) : Calls Tryz.prog 47 #[pT b] w (Ret fun _ w' => Bk w' b tDev (dvC p (doM d 1)) ∧ Chg (fun k => k = b) w w') := by
  refine calls_of_Wc Tryz.func47 rfl Tryz.ntmps47 rfl ?_
  (repeat' (first | refine Wl.moveE (by conv => { lhs; whnf }) ?_ | refine Wc.region ?_ | refine Wl.nilP rfl ?_ | refine Wl.fieldAddr rfl rfl ?_))
  refine Wl.store1 h rfl (by simp [dvC]) rfl rfl fun w1 b1 c1 => ?_
  (repeat' (refine Wl.nil ?_))
  exact Qfn.end0 rfl ⟨_, rfl, b1, c1⟩
theorem do2 {w : World} {b : Nat} {p : List UInt8} {d : Dv} (h : Bk w b tDev (dvC p d)) : Calls Tryz.prog 49 #[pT b] w (Ret fun _ w' => Bk w' b tDev (dvC p (doM d 2)) ∧ Chg (fun k => k = b) w w') := by
  refine calls_of_Wc Tryz.func49 rfl Tryz.ntmps49 rfl ?_
  (repeat' (first | refine Wl.moveE (by conv => { lhs; whnf }) ?_ | refine Wc.region ?_ | refine Wl.nilP rfl ?_ | refine Wl.fieldAddr rfl rfl ?_))
  refine Wl.store1 h rfl (by simp [dvC]) rfl rfl fun w1 b1 c1 => ?_
  (repeat' (refine Wl.nil ?_))
  exact Qfn.end0 rfl ⟨_, rfl, b1, c1⟩
theorem do3 {w : World} {b : Nat} {p : List UInt8} {d : Dv} (h : Bk w b tDev (dvC p d)) : Calls Tryz.prog 51 #[pT b] w (Ret fun _ w' => Bk w' b tDev (dvC p (doM d 3)) ∧ Chg (fun k => k = b) w w') := by
  refine calls_of_Wc Tryz.func51 rfl Tryz.ntmps51 rfl ?_
  (repeat' (first | refine Wl.moveE (by conv => { lhs; whnf }) ?_ | refine Wc.region ?_ | refine Wl.nilP rfl ?_ | refine Wl.fieldAddr rfl rfl ?_))
  refine Wl.store1 h rfl (by simp [dvC]) rfl rfl fun w1 b1 c1 => ?_
  (repeat' (refine Wl.nil ?_))
  exact Qfn.end0 rfl ⟨_, rfl, b1, c1⟩
theorem do4 {w : World} {b : Nat} {p : List UInt8} {d : Dv} (h : Bk w b tDev (dvC p d)) : Calls Tryz.prog 53 #[pT b] w (Ret fun _ w' => Bk w' b tDev (dvC p (doM d 4)) ∧ Chg (fun k => k = b) w w') := by
  refine calls_of_Wc Tryz.func53 rfl Tryz.ntmps53 rfl ?_
  (repeat' (first | refine Wl.moveE (by conv => { lhs; whnf }) ?_ | refine Wc.region ?_ | refine Wl.nilP rfl ?_ | refine Wl.fieldAddr rfl rfl ?_))
  refine Wl.store1 h rfl (by simp [dvC]) rfl rfl fun w1 b1 c1 => ?_
  (repeat' (refine Wl.nil ?_))
  exact Qfn.end0 rfl ⟨_, rfl, b1, c1⟩
theorem do5 {w : World} {b : Nat} {p : List UInt8} {d : Dv} (h : Bk w b tDev (dvC p d)) : Calls Tryz.prog 55 #[pT b] w (Ret fun _ w' => Bk w' b tDev (dvC p (doM d 5)) ∧ Chg (fun k => k = b) w w') := by
  refine calls_of_Wc Tryz.func55 rfl Tryz.ntmps55 rfl ?_
  (repeat' (first | refine Wl.moveE (by conv => { lhs; whnf }) ?_ | refine Wc.region ?_ | refine Wl.nilP rfl ?_ | refine Wl.fieldAddr rfl rfl ?_))
  refine Wl.store1 h rfl (by simp [dvC]) rfl rfl fun w1 b1 c1 => ?_
  (repeat' (refine Wl.nil ?_))
  exact Qfn.end0 rfl ⟨_, rfl, b1, c1⟩
theorem do6 {w : World} {b : Nat} {p : List UInt8} {d : Dv} (h : Bk w b tDev (dvC p d)) : Calls Tryz.prog 57 #[pT b] w (Ret fun _ w' => Bk w' b tDev (dvC p (doM d 6)) ∧ Chg (fun k => k = b) w w') := by
  refine calls_of_Wc Tryz.func57 rfl Tryz.ntmps57 rfl ?_
  (repeat' (first | refine Wl.moveE (by conv => { lhs; whnf }) ?_ | refine Wc.region ?_ | refine Wl.nilP rfl ?_ | refine Wl.fieldAddr rfl rfl ?_))
  refine Wl.store1 h rfl (by simp [dvC]) rfl rfl fun w1 b1 c1 => ?_
  (repeat' (refine Wl.nil ?_))
  exact Qfn.end0 rfl ⟨_, rfl, b1, c1⟩
theorem do7 {w : World} {b : Nat} {p : List UInt8} {d : Dv} (h : Bk w b tDev (dvC p d)) : Calls Tryz.prog 59 #[pT b] w (Ret fun _ w' => Bk w' b tDev (dvC p (doM d 7)) ∧ Chg (fun k => k = b) w w') := by
  refine calls_of_Wc Tryz.func59 rfl Tryz.ntmps59 rfl ?_
  (repeat' (first | refine Wl.moveE (by conv => { lhs; whnf }) ?_ | refine Wc.region ?_ | refine Wl.nilP rfl ?_ | refine Wl.fieldAddr rfl rfl ?_))
  refine Wl.store1 h rfl (by simp [dvC]) rfl rfl fun w1 b1 c1 => ?_
  (repeat' (refine Wl.nil ?_))
  exact Qfn.end0 rfl ⟨_, rfl, b1, c1⟩
theorem do8 {w : World} {b : Nat} {p : List UInt8} {d : Dv} (h : Bk w b tDev (dvC p d)) : Calls Tryz.prog 61 #[pT b] w (Ret fun _ w' => Bk w' b tDev (dvC p (doM d 8)) ∧ Chg (fun k => k = b) w w') := by
  refine calls_of_Wc Tryz.func61 rfl Tryz.ntmps61 rfl ?_
  (repeat' (first | refine Wl.moveE (by conv => { lhs; whnf }) ?_ | refine Wc.region ?_ | refine Wl.nilP rfl ?_ | refine Wl.fieldAddr rfl rfl ?_))
  refine Wl.store1 h rfl (by simp [dvC]) rfl rfl fun w1 b1 c1 => ?_
  (repeat' (refine Wl.nil ?_))
  exact Qfn.end0 rfl ⟨_, rfl, b1, c1⟩
theorem do9 {w : World} {b : Nat} {p : List UInt8} {d : Dv} (h : Bk w b tDev (dvC p d)) : Calls Tryz.prog 63 #[pT b] w (Ret fun _ w' => Bk w' b tDev (dvC p (doM d 9)) ∧ Chg (fun k => k = b) w w') := by
  refine calls_of_Wc Tryz.func63 rfl Tryz.ntmps63 rfl ?_
  (repeat' (refine Wc.skip ?_))
  exact Qfn.end0 rfl ⟨_, rfl, h, Chg.refl _ _⟩
theorem may_spec {w : World} {p : List UInt8} {d : Dv} {k : Nat} (h0 : 1 ≤ k) (h9 : k ≤ 9) : Calls Tryz.prog (mayF k) #[dvV p d] w (Ret fun r w' => r = .bool (mayM d k) ∧ New w w') := by
  rcases kinds9 h0 h9 with rfl | rfl | rfl | rfl | rfl | rfl | rfl | rfl | rfl
  · exact may1
  · exact may2
  · exact may3
  · exact may4
  · exact may5
  · exact may6
  · exact may7
  · exact may8
  · exact may9
theorem do_spec {w : World} {b : Nat} {p : List UInt8} {d : Dv} {k : Nat} (h0 : 1 ≤ k) (h9 : k ≤ 9) (h : Bk w b tDev (dvC p d)) : Calls Tryz.prog (doF k) #[pT b] w (Ret fun _ w' => Bk w' b tDev (dvC p (doM d k)) ∧ Chg (fun k => k = b) w w') := by
  rcases kinds9 h0 h9 with rfl | rfl | rfl | rfl | rfl | rfl | rfl | rfl | rfl
  · exact do1 h
  · exact do2 h
  · exact do3 h
  · exact do4 h
  · exact do5 h
  · exact do6 h
  · exact do7 h
  · exact do8 h
  · exact do9 h
theorem may_call {k : Nat} (h0 : 1 ≤ k) (h9 : k ≤ 9) : Callable Tryz.prog (mayF k) := by
  rcases kinds9 h0 h9 with rfl | rfl | rfl | rfl | rfl | rfl | rfl | rfl | rfl
  · exact (inferInstance : Callable Tryz.prog 46)
  · exact (inferInstance : Callable Tryz.prog 48)
  · exact (inferInstance : Callable Tryz.prog 50)
  · exact (inferInstance : Callable Tryz.prog 52)
  · exact (inferInstance : Callable Tryz.prog 54)
  · exact (inferInstance : Callable Tryz.prog 56)
  · exact (inferInstance : Callable Tryz.prog 58)
  · exact (inferInstance : Callable Tryz.prog 60)
  · exact (inferInstance : Callable Tryz.prog 62)
theorem do_call {k : Nat} (h0 : 1 ≤ k) (h9 : k ≤ 9) : Callable Tryz.prog (doF k) := by
  rcases kinds9 h0 h9 with rfl | rfl | rfl | rfl | rfl | rfl | rfl | rfl | rfl
  · exact (inferInstance : Callable Tryz.prog 47)
  · exact (inferInstance : Callable Tryz.prog 49)
  · exact (inferInstance : Callable Tryz.prog 51)
  · exact (inferInstance : Callable Tryz.prog 53)
  · exact (inferInstance : Callable Tryz.prog 55)
  · exact (inferInstance : Callable Tryz.prog 57)
  · exact (inferInstance : Callable Tryz.prog 59)
  · exact (inferInstance : Callable Tryz.prog 61)
  · exact ⟨⟨_, Tryz.func63, by kernel_rfl, by kernel_rfl⟩⟩
theorem kB : Maps.Keyed Tryz.prog 5 := Maps.int_keyed Tryz.underlying5
theorem keyB {i : Nat} (h : i < 256) : keyOf Tryz.prog 5 (.int .u8 i) = some (.int .u8 i) :=
  Maps.keyOf_int_mk Tryz.underlying5 (by simp [Lit.wf, IntKind.min, IntKind.max, IntKind.signed, IntKind.bits]; omega)
theorem rule_in {k : Nat} {r : Value} (h : ((.int .u8 (k : Nat) : Value), r) ∈ ruleL) : 1 ≤ k ∧ k ≤ 9 ∧ r = ruleV k := by
  unfold ruleL at h
  obtain ⟨j, hj, e⟩ := List.mem_map.1 h
  obtain ⟨e1, e2⟩ := Prod.mk.inj e
  injection e1 with _ e3
  have : j = k := by omega
  subst this
  simp at hj
  exact ⟨by omega, by omega, e2.symm⟩
theorem rule_out {k : Nat} (h : ∀ p ∈ ruleL, p.1 ≠ (.int .u8 (k : Nat) : Value)) : k = 0 ∨ 10 ≤ k := by
  rcases Nat.eq_zero_or_pos k with h0 | h0
  · exact .inl h0
  · rcases Nat.lt_or_ge k 10 with h9 | h9
    · exfalso
      refine h (.int .u8 k, ruleV k) ?_ rfl
      rcases kinds9 h0 (by omega) with rfl | rfl | rfl | rfl | rfl | rfl | rfl | rfl | rfl <;> simp [ruleL]
    · exact .inr h9
set_option maxHeartbeats 1000000 in
theorem rules_spec {w : World} : Calls Tryz.prog 30 #[] w (Ret fun r w' => ∃ b, r = .map (some b) ∧ MapL Tryz.prog 5 w' b ruleL ∧ w.heap.size ≤ b ∧ New w w') := by
  refine calls_of_Wc Tryz.func30 rfl Tryz.ntmps30 rfl ?_
  (repeat' (first | refine Wl.assignE (by conv => { lhs; whnf }) ?_ | refine Wl.nil ?_ | refine Qseq.normal ?_ | refine Wc.seq ?_ | refine Wc.region ?_))
  refine Wl.makeMap (k := 5) fun w0 m0 n0 s0 => ?_
  have z0 := n0.size
  refine Wl.buildG (u := ruleV 1) rfl (by kernel_rfl) ?_
  refine Wk.Wl.mapInsP (key := .int .u8 (1 : Nat)) (u := ruleV 1) kB m0 (keyB (by decide)) (by simp) rfl rfl rfl fun w1 m1 c1 s1 => ?_
  refine Wl.buildG (u := ruleV 2) rfl (by kernel_rfl) ?_
  refine Wk.Wl.mapInsP (key := .int .u8 (2 : Nat)) (u := ruleV 2) kB m1 (keyB (by decide)) (by simp) rfl rfl rfl fun w2 m2 c2 s2 => ?_
  refine Wl.buildG (u := ruleV 3) rfl (by kernel_rfl) ?_
  refine Wk.Wl.mapInsP (key := .int .u8 (3 : Nat)) (u := ruleV 3) kB m2 (keyB (by decide)) (by simp) rfl rfl rfl fun w3 m3 c3 s3 => ?_
  refine Wl.buildG (u := ruleV 4) rfl (by kernel_rfl) ?_
  refine Wk.Wl.mapInsP (key := .int .u8 (4 : Nat)) (u := ruleV 4) kB m3 (keyB (by decide)) (by simp) rfl rfl rfl fun w4 m4 c4 s4 => ?_
  refine Wl.buildG (u := ruleV 5) rfl (by kernel_rfl) ?_
  refine Wk.Wl.mapInsP (key := .int .u8 (5 : Nat)) (u := ruleV 5) kB m4 (keyB (by decide)) (by simp) rfl rfl rfl fun w5 m5 c5 s5 => ?_
  refine Wl.buildG (u := ruleV 6) rfl (by kernel_rfl) ?_
  refine Wk.Wl.mapInsP (key := .int .u8 (6 : Nat)) (u := ruleV 6) kB m5 (keyB (by decide)) (by simp) rfl rfl rfl fun w6 m6 c6 s6 => ?_
  refine Wl.buildG (u := ruleV 7) rfl (by kernel_rfl) ?_
  refine Wk.Wl.mapInsP (key := .int .u8 (7 : Nat)) (u := ruleV 7) kB m6 (keyB (by decide)) (by simp) rfl rfl rfl fun w7 m7 c7 s7 => ?_
  refine Wl.buildG (u := ruleV 8) rfl (by kernel_rfl) ?_
  refine Wk.Wl.mapInsP (key := .int .u8 (8 : Nat)) (u := ruleV 8) kB m7 (keyB (by decide)) (by simp) rfl rfl rfl fun w8 m8 c8 s8 => ?_
  refine Wl.buildG (u := ruleV 9) rfl (by kernel_rfl) ?_
  refine Wk.Wl.mapInsP (key := .int .u8 (9 : Nat)) (u := ruleV 9) kB m8 (keyB (by decide)) (by simp) rfl rfl rfl fun w9 m9 c9 s9 => ?_
  have n9 : New w w9 := by
    refine Chg.trans n0 (M' := fun j => j = w.heap.size) ?_ fun k hk e => by omega
    refine Chg.trans c1 ?_ (fun _ _ e => e)
    refine Chg.trans c2 ?_ (fun _ _ e => e)
    refine Chg.trans c3 ?_ (fun _ _ e => e)
    refine Chg.trans c4 ?_ (fun _ _ e => e)
    refine Chg.trans c5 ?_ (fun _ _ e => e)
    refine Chg.trans c6 ?_ (fun _ _ e => e)
    refine Chg.trans c7 ?_ (fun _ _ e => e)
    exact Chg.trans c8 c9 (fun _ _ e => e)
  (repeat' (first | refine Wl.moveE (by conv => { lhs; whnf }) ?_ | refine Wl.assignE (by conv => { lhs; whnf }) ?_ | refine Wl.nil ?_ | refine Qseq.normal ?_ | refine Wc.ret ?_))
  exact Qfn.ret1 rfl rfl ⟨_, rfl, w.heap.size, rfl, m9, Nat.le_refl _, n9⟩
end Go.Proofs.YtjaendlcijmifaaGreatDoor

namespace Go.Proofs
open Go.Shelf
def Tryz.sortD_ren : Go.Shelf.Ren := ⟨fun | 6 => 31 | 15 => 65 | 14 => 64 | 28 => 86 | 29 => 87 | 20 => 78 | 21 => 79 | 22 => 80 | 23 => 81 | 24 => 82 | 25 => 83 | 26 => 84 | 27 => 85 | 46 => 103 | 47 => 104 | 48 => 105 | 49 => 106 | 50 => 107 | 57 => 120 | n => n, fun | 22 => 78 | 24 => 84 | 25 => 87 | 3 => 3 | 39 => 107 | 0 => 0 | 53 => 123 | 55 => 24 | 4 => 4 | 46 => 117 | 45 => 116 | 50 => 63 | 5 => 5 | 9 => 9 | 66 => 138 | 70 => 141 | 76 => 155 | 77 => 156 | n => n, fun | n => n⟩
theorem Tryz.sortD : Go.Proofs.SlLaysF.n6 Tryz.prog Tryz.sortD_ren := {
  mixed := by kernel_rfl
  f6 := ⟨Tryz.f31.name, by decide, Tryz.func31.trans (congrArg some (by kernel_rfl))⟩
  f14 := ⟨Tryz.f64.name, by decide, Tryz.func64.trans (congrArg some (by kernel_rfl))⟩
  f15 := Tryz.func65.trans (congrArg some (by kernel_rfl))
  f20 := ⟨Tryz.f78.name, by decide, Tryz.func78.trans (congrArg some (by kernel_rfl))⟩
  f21 := ⟨Tryz.f79.name, by decide, Tryz.func79.trans (congrArg some (by kernel_rfl))⟩
  f22 := ⟨Tryz.f80.name, by decide, Tryz.func80.trans (congrArg some (by kernel_rfl))⟩
  f23 := ⟨Tryz.f81.name, by decide, Tryz.func81.trans (congrArg some (by kernel_rfl))⟩
  f24 := ⟨Tryz.f82.name, by decide, Tryz.func82.trans (congrArg some (by kernel_rfl))⟩
  f25 := ⟨Tryz.f83.name, by decide, Tryz.func83.trans (congrArg some (by kernel_rfl))⟩
  f26 := ⟨Tryz.f84.name, by decide, Tryz.func84.trans (congrArg some (by kernel_rfl))⟩
  f27 := ⟨Tryz.f85.name, by decide, Tryz.func85.trans (congrArg some (by kernel_rfl))⟩
  f28 := Tryz.func86.trans (congrArg some (by kernel_rfl))
  f29 := Tryz.func87.trans (congrArg some (by kernel_rfl))
  f46 := ⟨Tryz.f103.name, by decide, Tryz.func103.trans (congrArg some (by kernel_rfl))⟩
  f47 := Tryz.func104.trans (congrArg some (by kernel_rfl))
  f48 := Tryz.func105.trans (congrArg some (by kernel_rfl))
  f49 := ⟨Tryz.f106.name, by decide, Tryz.func106.trans (congrArg some (by kernel_rfl))⟩
  f50 := ⟨Tryz.f107.name, by decide, Tryz.func107.trans (congrArg some (by kernel_rfl))⟩
  f57 := ⟨Tryz.f120.name, by decide, Tryz.func120.trans (congrArg some (by kernel_rfl))⟩
  t0 := Tryz.underlying0
  a0 := Tryz.isAgg0
  z0 := Tryz.sizeOf0
  v0 := Tryz.zeroValue0
  t3 := Tryz.underlying3
  a3 := Tryz.isAgg3
  z3 := Tryz.sizeOf3
  v3 := Tryz.zeroValue3
  t4 := Tryz.underlying4
  a4 := Tryz.isAgg4
  z4 := Tryz.sizeOf4
  v4 := Tryz.zeroValue4
  t5 := Tryz.underlying5
  a5 := Tryz.isAgg5
  z5 := Tryz.sizeOf5
  v5 := Tryz.zeroValue5
  t9 := Tryz.underlying9
  a9 := Tryz.isAgg9
  z9 := Tryz.sizeOf9
  v9 := Tryz.zeroValue9
  t22 := Tryz.underlying78
  a22 := Tryz.isAgg78
  z22 := Tryz.sizeOf78
  v22 := Tryz.zeroValue78
  a24 := Tryz.isAgg84
  z24 := Tryz.sizeOf84
  t25 := Tryz.underlying87
  a25 := Tryz.isAgg87
  z25 := Tryz.sizeOf87
  v25 := Tryz.zeroValue87
  t39 := Tryz.underlying107
  a39 := Tryz.isAgg107
  z39 := Tryz.sizeOf107
  v39 := Tryz.zeroValue107
  t45 := Tryz.underlying116
  a45 := Tryz.isAgg116
  z45 := Tryz.sizeOf116
  v45 := Tryz.zeroValue116
  t46 := Tryz.underlying117
  a46 := Tryz.isAgg117
  z46 := Tryz.sizeOf117
  v46 := Tryz.zeroValue117
  t50 := Tryz.underlying63
  a50 := Tryz.isAgg63
  z50 := Tryz.sizeOf63
  v50 := Tryz.zeroValue63
  t53 := Tryz.underlying123
  a53 := Tryz.isAgg123
  z53 := Tryz.sizeOf123
  v53 := Tryz.zeroValue123
  t55 := Tryz.underlying24
  a55 := Tryz.isAgg24
  z55 := Tryz.sizeOf24
  v55 := Tryz.zeroValue24
  t66 := Tryz.underlying138
  a66 := Tryz.isAgg138
  z66 := Tryz.sizeOf138
  v66 := Tryz.zeroValue138
  t70 := Tryz.underlying141
  a70 := Tryz.isAgg141
  z70 := Tryz.sizeOf141
  v70 := Tryz.zeroValue141
  t76 := Tryz.underlying155
  a76 := Tryz.isAgg155
  z76 := Tryz.sizeOf155
  v76 := Tryz.zeroValue155
  t77 := Tryz.underlying156
  a77 := Tryz.isAgg156
  z77 := Tryz.sizeOf156
  v77 := Tryz.zeroValue156 }
end Go.Proofs

namespace Go.Proofs.YtjaendlcijmifaaGreatDoor
open Go Wk
open Go.RowKit (Below)
open Go.Sort (SWO Holds)
attribute [local irreducible] Go.Calls

section
variable {P : Program} {n : Nat} {ds : List Deferred} {Q : Po} {F : Fr} {w : World} {ops rest : List Oper} {d : Nat} {ty t t' : TypeId} {pos : String} {aft : Array Edge} {x y : Operand} {a b : List UInt8}
theorem Wk.Wl.slss (hx : ev n F x = vs a) (hy : ev n F y = vs b) (ht : a < b → Wl P n ds Q ops rest (upd F d (.bool true)) w) (hf : ¬ a < b → Wl P n ds Q ops rest (upd F d (.bool false)) w) :
    Wl P n ds Q ops (⟨some d, .binOp .lss t x y t', ty, pos, aft, none⟩ :: rest) F w := by
  by_cases h : a < b
  · exact Wl.val (by simp only [execOp, hx, hy, Sem.run_bind, run_eqGuard_str, Result.andThen_ok, binOp_string_lss, ByteArray.toList_mk, Sem.run_pure, bytesLess_eq, decide_eq_true h]) (ht h)
  · exact Wl.val (by simp only [execOp, hx, hy, Sem.run_bind, run_eqGuard_str, Result.andThen_ok, binOp_string_lss, ByteArray.toList_mk, Sem.run_pure, bytesLess_eq, decide_eq_false h]) (hf h)
theorem Wk.Wl.sgtr (hx : ev n F x = vs a) (hy : ev n F y = vs b) (ht : b < a → Wl P n ds Q ops rest (upd F d (.bool true)) w) (hf : ¬ b < a → Wl P n ds Q ops rest (upd F d (.bool false)) w) :
    Wl P n ds Q ops (⟨some d, .binOp .gtr t x y t', ty, pos, aft, none⟩ :: rest) F w := by
  have e : (!(decide (a < b) || a == b)) = decide (b < a) := by
    by_cases h : a < b
    · rw [decide_eq_true h, decide_eq_false (List.lt_asymm h)]; rfl
    · by_cases h2 : a = b
      · subst h2; rw [decide_eq_false h]; simp
      · rw [decide_eq_false h, decide_eq_true (lt_of_not h h2), beq_eq_false_iff_ne.2 h2]; rfl
  have r : (execOp (ev n F) ⟨some d, .binOp .gtr t x y t', ty, pos, aft, none⟩).run P w = .ok (.value (.bool (decide (b < a)))) w := by
    simp only [execOp, hx, hy, Sem.run_bind, run_eqGuard_str, Result.andThen_ok, binOp_string_gtr, ByteArray.toList_mk, Sem.run_pure, bytesLess_eq, e]
  by_cases h : b < a
  · rw [decide_eq_true h] at r; exact Wl.val r (ht h)
  · rw [decide_eq_false h] at r; exact Wl.val r (hf h)
end
/-- cmp.Compare of texts. -/
def cmpS (a b : List UInt8) : Int := if a < b then -1 else if b < a then 1 else 0
theorem cmpS_lt (a b : List UInt8) : decide (cmpS a b < 0) = decide (a < b) := by
  unfold cmpS; split
  · rename_i h; simp [h]
  · rename_i h; split <;> simp [h]
theorem isNaN_spec {w : World} {a : List UInt8} : Calls Tryz.prog 66 #[vs a] w (Ret fun r w' => r = .bool false ∧ w = w') := by
  refine calls_of_Wc Tryz.func66 rfl Tryz.ntmps66 rfl ?_
  (repeat' (first | refine Wl.moveE (by conv => { lhs; whnf }) ?_ | refine Wl.assignE (by conv => { lhs; whnf }) ?_ | refine Wl.nil ?_ | refine Qseq.normal ?_ | refine Wc.seq ?_ | refine Wc.region ?_ | refine Wc.ret ?_ | (refine Wl.sneq rfl rfl (fun _ => ?_) (fun _ => ?_) <;> (first | (exfalso; contradiction) | skip))))
  all_goals first | contradiction | exact Qfn.ret1 rfl rfl ⟨_, rfl, rfl, rfl⟩
theorem Compare_spec {w : World} {a b : List UInt8} : Calls Tryz.prog 33 #[vs a, vs b] w (Ret fun r w' => r = vi (cmpS a b) ∧ w = w') := by
  refine calls_of_Wc Tryz.func33 rfl Tryz.ntmps33 rfl ?_
  (repeat' (first | refine Wl.moveE (by conv => { lhs; whnf }) ?_ | refine Wl.assignE (by conv => { lhs; whnf }) ?_ | refine Wl.nil ?_ | refine Qseq.normal ?_ | refine Wc.seq ?_ | refine Wc.region ?_))
  refine Wl.call isNaN_spec rfl ?_
  rintro _ _ ⟨rfl, rfl⟩
  (repeat' (first | refine Wl.moveE (by conv => { lhs; whnf }) ?_ | refine Wl.assignE (by conv => { lhs; whnf }) ?_ | refine Wl.nil ?_ | refine Qseq.normal ?_ | refine Wc.seq ?_ | refine Wc.region ?_))
  refine Wl.call isNaN_spec rfl ?_
  rintro _ _ ⟨rfl, rfl⟩
  (repeat' (first | refine Wl.moveE (by conv => { lhs; whnf }) ?_ | refine Wl.assignE (by conv => { lhs; whnf }) ?_ | refine Wl.nil ?_ | refine Qseq.normal ?_ | refine Wc.seq ?_ | refine Wc.region ?_ | refine Wc.skip ?_ | refine Wc.condF rfl ?_))
  refine Wk.Wl.slss rfl rfl (fun h => ?_) (fun h => ?_)
  · (repeat' (first | refine Wl.assignE (by conv => { lhs; whnf }) ?_ | refine Wl.nil ?_ | refine Qseq.normal ?_ | refine Wc.seq ?_ | refine Wc.region ?_ | refine Wc.ret ?_ | refine Qseq.ret ?_ | refine Wc.condT rfl ?_))
    refine Qfn.ret1 rfl rfl ⟨_, rfl, ?_, rfl⟩
    unfold cmpS; rw [if_pos h]; rfl
  · (repeat' (first | refine Wl.moveE (by conv => { lhs; whnf }) ?_ | refine Wl.nil ?_ | refine Qseq.normal ?_ | refine Wc.seq ?_ | refine Wc.region ?_ | refine Wc.skip ?_ | refine Wc.condF rfl ?_))
    refine Wk.Wl.sgtr rfl rfl (fun h' => ?_) (fun h' => ?_)
    · (repeat' (first | refine Wl.assignE (by conv => { lhs; whnf }) ?_ | refine Wl.nil ?_ | refine Qseq.normal ?_ | refine Wc.seq ?_ | refine Wc.region ?_ | refine Wc.ret ?_ | refine Qseq.ret ?_ | refine Wc.condT rfl ?_))
      refine Qfn.ret1 rfl rfl ⟨_, rfl, ?_, rfl⟩
      unfold cmpS; rw [if_neg h, if_pos h']; rfl
    · (repeat' (first | refine Wl.assignE (by conv => { lhs; whnf }) ?_ | refine Wl.nil ?_ | refine Qseq.normal ?_ | refine Wc.seq ?_ | refine Wc.region ?_ | refine Wc.skip ?_ | refine Wc.ret ?_ | refine Wc.condF rfl ?_))
      refine Qfn.ret1 rfl rfl ⟨_, rfl, ?_, rfl⟩
      unfold cmpS; rw [if_neg h, if_neg h']; rfl
theorem order_spec {w : World} {i j : Nat} {p q : List UInt8} {d e : Dv} (hi : Bk w i tDev (dvC p d)) (hj : Bk w j tDev (dvC q e)) : Calls Tryz.prog 32 #[pT i, pT j] w (Ret fun r w' => r = vi (cmpS p q) ∧ ∃ n, w' = w.drewN n) := by
  refine calls_of_Wc Tryz.func32 rfl Tryz.ntmps32 rfl ?_
  (repeat' (first | refine Wl.assignE (by conv => { lhs; whnf }) ?_ | refine Wl.nil ?_ | refine Qseq.normal ?_ | refine Wc.seq ?_ | refine Wc.region ?_))
  refine Wc.regionQ (fun w' => ∃ n, w' = w.drewN n) rfl (by kernel_rfl) ⟨1, rfl⟩ ?_
  (repeat' (first | refine Wq.moveE (by conv => { lhs; whnf }) ?_ | refine Wq.nilP rfl ?_ | refine Wq.fieldAddr rfl rfl ?_))
  refine Wq.load1 rfl (fun w' h => by obtain ⟨n, rfl⟩ := h; exact hi.cell (o := 0) rfl) ?_
  (repeat' (first | refine Wq.moveE (by conv => { lhs; whnf }) ?_ | refine Wq.nilP rfl ?_ | refine Wq.fieldAddr rfl rfl ?_))
  refine Wq.load1 rfl (fun w' h => by obtain ⟨n, rfl⟩ := h; exact hj.cell (o := 0) rfl) ?_
  refine Wq.call (v := vi (cmpS p q)) (fun w' h => Compare_spec.mono ?_) rfl ?_
  · rintro _ w'' ⟨v, rfl, rfl, rfl⟩
    exact ⟨rfl, h⟩
  (repeat' (first | refine Wq.assignE (by conv => { lhs; whnf }) ?_ | refine Wq.nil ?_))
  rintro w' h
  (repeat' (first | refine Qseq.normal ?_ | refine Wc.ret ?_))
  exact Qfn.ret1 rfl rfl ⟨_, rfl, rfl, h⟩
section
variable {α : Type} [Inhabited α] {enc : α → Value} {w : World} {blk n : Nat} {d : Array α} {os : Array Obj}
theorem chg_sortWorld (hb : blk < w.heap.size) : Chg (fun j => j = blk) w (sortWorld enc w blk 0 n d os) :=
  ⟨rfl, rfl, rfl, by simp [sortWorld, Sort.grow, Sort.putRow, Sort.mapBlock, Sort.ahead], fun j hj hn => by
    have : ¬ blk = j := fun e => hn e.symm
    simp only [sortWorld, Sort.grow, Sort.putRow, Sort.mapBlock, Sort.ahead]
    rw [Array.getElem?_append_left (by simpa using hj), Array.getElem?_modify, if_neg this]⟩
theorem heap_sortWorld {cs : Array Value} {T : TypeId} (h : w.heap[blk]? = some (.cells cs T (0, 0))) : (sortWorld enc w blk 0 n d os).heap[blk]? = some (.cells (Sort.putCells enc 0 d cs) T (0, 0)) := by
  have hb := (Array.getElem?_eq_some_iff.1 h).1
  simp only [sortWorld, Sort.grow, Sort.putRow, Sort.mapBlock, Sort.ahead]
  rw [Array.getElem?_append_left (by simpa using hb), Array.getElem?_modify, if_pos rfl, h]
  rfl
end
/-- A device in memory: its block, its path, what it is. -/
abbrev Pd := Nat × List UInt8 × Dv
abbrev pdV : Pd → Value := fun x => pT x.1
theorem goodPd : GoodR (Wk.one pdV) 1 := good_one _ fun _ => rfl
theorem sort_spec {Pb : Nat → Prop} {w : World} {L : List Pd} {v : Value} (own : OwnS (Wk.one pdV) 84 1 Pb No w v L) (hdev : ∀ x ∈ L, Bk w x.1 tDev (dvC x.2.1 x.2.2)) (hk : L.Pairwise fun a b => a.2.1 ≠ b.2.1) (hsep : ∀ x ∈ L, v.ownBlock ≠ some x.1) (hlen : L.length ≤ 2000000) :
    Calls Tryz.prog 31 #[v, .func (.func 32) #[] #[]] w (Ret fun _ w' => ∃ L', L'.Perm L ∧ (L'.Pairwise fun a b => a.2.1 < b.2.1) ∧ OwnS (Wk.one pdV) 84 1 Pb No w' v L' ∧ Chg (fun k => v.ownBlock = some k) w w') := by
  by_cases hL : L = []
  · subst hL
    obtain ⟨a, cap, rfl, _, _⟩ := own.form
    refine (AnyF.slices_SortFunc_none ({ Tryz.sortD with } : SlLaysF0.n6 Tryz.prog Tryz.sortD_ren) a cap _ w).mono ?_
    rintro _ w' ⟨rfl, rfl⟩
    exact ⟨_, rfl, [], .nil, .nil, own, Chg.refl _ _⟩
  obtain ⟨g, cap, hv, _, hg, hvb⟩ := own.blk hL
  subst hv
  obtain ⟨x0, hx0⟩ := List.exists_mem_of_ne_nil _ hL
  haveI : Inhabited { x : Pd // x ∈ L } := ⟨⟨x0, hx0⟩⟩
  obtain ⟨hcl, h0 | ⟨g', cap', cur, e1, hPg, hheap, h1, h2, h3, h4⟩⟩ := own.to1
  · exact absurd h0.1 (by simp)
  cases e1
  let enc : { x : Pd // x ∈ L } → Value := fun x => pdV x.1
  let cf : { x : Pd // x ∈ L } → { x : Pd // x ∈ L } → Int := fun x y => cmpS x.1.2.1 y.1.2.1
  have hlt : ∀ x y, ltOf cf x y = decide (x.1.2.1 < y.1.2.1) := fun x y => cmpS_lt _ _
  have hO : SWO (ltOf cf) := by
    refine ⟨fun x => ?_, fun x y z h1 h2 => ?_, fun x y z h1 h2 => ?_⟩
    · rw [hlt, decide_eq_false (List.lt_irrefl _)]
    · rw [hlt] at *
      exact decide_eq_true (List.lt_trans (of_decide_eq_true h1) (of_decide_eq_true h2))
    · rw [hlt] at *
      refine decide_eq_false fun h => ?_
      have h1' := of_decide_eq_false h1
      have h2' := of_decide_eq_false h2
      by_cases e : y.1.2.1 = z.1.2.1
      · rw [e] at h1'; exact h1' h
      · exact h1' (List.lt_trans h (lt_of_not h2' e))
  have hT : ∀ x y, (ltOf cf) x y = false → (ltOf cf) y x = false → x = y := by
    intro x y h1 h2
    rw [hlt] at h1 h2
    have e : x.1.2.1 = y.1.2.1 := by
      by_cases e : x.1.2.1 = y.1.2.1
      · exact e
      · exact absurd (lt_of_not (of_decide_eq_false h1) e) (of_decide_eq_false h2)
    have key : ∀ {L : List Pd}, (L.Pairwise fun a b => a.2.1 ≠ b.2.1) → ∀ a ∈ L, ∀ b ∈ L, a.2.1 = b.2.1 → a = b := by
      intro L
      induction L with
      | nil => intro _ a ha; simp at ha
      | cons c L ih =>
        intro hp a ha b hb hab
        obtain ⟨q1, q2⟩ := List.pairwise_cons.1 hp
        rcases List.mem_cons.1 ha with ha | ha <;> rcases List.mem_cons.1 hb with hb | hb
        · rw [ha, hb]
        · exact absurd (by rw [← ha]; exact hab) (q1 b hb)
        · exact absurd (by rw [← hb]; exact hab.symm) (q1 a ha)
        · exact ih q2 a ha b hb hab
    exact Subtype.ext (key hk x.1 x.2 y.1 y.2 e)
  have hds : L.attach.toArray.size = L.length := by simp
  have hcur : ∀ (j : Nat) (hj : j < L.length), cur[j]? = some (pdV L[j]) := by
    intro j hj
    have h5 : (List.take (L.length * 1) cur.toList)[j]? = (L.map pdV)[j]? := by rw [h4]
    rw [List.getElem?_take, if_pos (by omega), List.getElem?_map, List.getElem?_eq_getElem hj] at h5
    simpa using h5
  have hH : Holds enc w g 0 L.attach.toArray := by
    intro j hj
    rw [hds] at hj
    refine ⟨?_, ?_⟩
    · simp only [World.cell?, hheap, Nat.zero_add]
      have : L.attach.toArray[j]! = ⟨L[j], List.getElem_mem hj⟩ := by simp [hj]
      rw [this]
      simpa using hcur j hj
    · simp [World.frozen?, hheap]
  have hcmp : CmpLays1 Tryz.prog 32 #[] enc cf g 0 L.attach.toArray.size w := by
    intro m os dk hs x y
    have cg := chg_sortWorld (enc := enc) (n := m) (d := dk) (os := os) hg
    have bx := (hdev x.1 x.2).chg cg fun e => hsep x.1 x.2 (by rw [e]; rfl)
    have by' := (hdev y.1 y.2).chg cg fun e => hsep y.1 y.2 (by rw [e]; rfl)
    refine (order_spec bx by').mono ?_
    rintro _ w' ⟨v, rfl, rfl, q, rfl⟩
    exact ⟨rfl, q, #[], by rw [Sort.grow_empty]⟩
  have h := Any.slices_SortFunc_total Tryz.sortD enc (fun _ => rfl) cf hO 32 #[] g 0 cap L.attach.toArray w (fun args w => run_callFunc (inferInstance : Callable Tryz.prog 32) args) hcmp hH hg (by rw [hds]; omega) hT
  rw [hds] at h
  refine h.mono ?_
  rintro _ w' ⟨rfl, n, os, rfl⟩
  have hAt : L.attach.toArray.toList = L.attach := rfl
  have hp0 := List.mergeSort_perm L.attach.toArray.toList fun x y => !(ltOf cf) y x
  have hs0 := List.pairwise_mergeSort (le := fun x y : { x : Pd // x ∈ L } => !(ltOf cf) y x) (fun a b c h1 h2 => by
    simp only [Bool.not_eq_true'] at h1 h2 ⊢
    exact hO.ntrans c b a h2 h1) (fun a b => by
    rw [hlt, hlt]
    by_cases e : b.1.2.1 < a.1.2.1
    · rw [decide_eq_false (List.lt_asymm e)]; simp
    · rw [decide_eq_false e]; simp) L.attach.toArray.toList
  generalize L.attach.toArray.toList.mergeSort (fun x y => !(ltOf cf) y x) = D at hp0 hs0 ⊢
  have hperm : (D.map (·.1)).Perm L := by
    have := hp0.map (fun x : { x : Pd // x ∈ L } => x.1)
    rwa [hAt, List.attach_map_subtype_val] at this
  have hDl : D.length = L.length := by have := hperm.length_eq; simpa using this
  refine ⟨_, rfl, D.map (·.1), hperm, ?_, ?_, (chg_sortWorld hg).mono fun k _ e => by rw [e]; rfl⟩
  · have hk' := (hperm.pairwise_iff (R := fun a b : Pd => a.2.1 ≠ b.2.1) fun h => h.symm).2 hk
    have hs1 : (D.map (·.1)).Pairwise fun a b : Pd => ¬ b.2.1 < a.2.1 := by
      rw [List.pairwise_map]
      refine hs0.imp fun {a b} hab => ?_
      rw [hlt] at hab
      simpa using hab
    exact (hs1.and hk').imp fun {a b} hab => lt_of_not hab.1 fun e => hab.2 e.symm
  · refine OwnS.of1 (m := L.length) (by simp [hDl]) ⟨by simp [hDl], .inr ⟨g, cap, _, rfl, hPg, heap_sortWorld hheap, h1, h2, by simp [Sort.putCells, h3], ?_⟩⟩
    apply List.ext_getElem?
    intro j
    rw [List.getElem?_take]
    by_cases hj : j < L.length
    · rw [if_pos (by omega), Array.getElem?_toList, Sort.putCells, Array.getElem?_mapIdx, hcur j hj, Option.map_some, if_pos ⟨Nat.zero_le _, by simp; omega⟩]
      have hjD : j < D.length := by omega
      rw [List.getElem?_map, List.getElem?_map, List.getElem?_eq_getElem hjD]
      simp [hjD, enc]
    · rw [if_neg (by omega), List.getElem?_eq_none (by simp; omega)]
end Go.Proofs.YtjaendlcijmifaaGreatDoor

namespace Go.Proofs.YtjaendlcijmifaaGreatDoor
open Go Wk
open Go.RowKit (Below)
attribute [local irreducible] Go.Calls

theorem kS : Maps.Keyed Tryz.prog 9 := Maps.string_keyed Tryz.underlying9
theorem keyS (s : List UInt8) (h : s.length ≤ maxLen) : ∃ q, keyOf Tryz.prog 9 (vs s) = some q :=
  ⟨_, WideMaps.keyOf_string_mk Tryz.underlying9 (by simpa only [ByteArray.size, List.size_toArray] using h)⟩
abbrev setV1 {α : Type} (f : α → Value) (ks : List α) : List (Value × Value) := ks.map fun k => (f k, vi 1)
abbrev pdK : Pd → Value × Value := fun x => (vs x.2.1, pT x.1)
theorem uniq_of {α β : Type} {f : α → β} {L : List α} (hp : L.Pairwise fun a b => f a ≠ f b) : ∀ a ∈ L, ∀ b ∈ L, f a = f b → a = b := by
  induction L with
  | nil => intro a ha; simp at ha
  | cons c L ih =>
    intro a ha b hb hab
    obtain ⟨q1, q2⟩ := List.pairwise_cons.1 hp
    rcases List.mem_cons.1 ha with ha | ha <;> rcases List.mem_cons.1 hb with hb | hb
    · rw [ha, hb]
    · exact absurd (by rw [← ha]; exact hab) (q1 b hb)
    · exact absurd (by rw [← hb]; exact hab.symm) (q1 a ha)
    · exact ih q2 a ha b hb hab
/-- What Play holds in memory. -/
structure PlK (w w3 : World) (rb hb : Nat) (PS : List Pd) (u : Value) (W : World) : Prop where
  new : New w W
  sz : w3.heap.size ≤ W.heap.size
  rules : MapL Tryz.prog 5 W rb ruleL
  had : MapL Tryz.prog 9 W hb (PS.map pdK)
  own : OwnS (Wk.one pdV) 84 1 (fun k => w3.heap.size ≤ k) No W u PS
  dev : ∀ x ∈ PS, w3.heap.size ≤ x.1 ∧ x.1 < W.heap.size ∧ Bk W x.1 tDev (dvC x.2.1 x.2.2) ∧ u.ownBlock ≠ some x.1
  apart : PS.Pairwise fun a b => a.1 ≠ b.1
theorem PlK.chg {w w3 : World} {rb hb : Nat} {PS : List Pd} {u : Value} {W W' : World} {M : Nat → Prop} (h : PlK w w3 rb hb PS u W) (c : Chg M W W') (hw : ∀ k, k < w.heap.size → ¬ M k) (hr : ¬ M rb) (hh : ¬ M hb) (hu : ∀ k, u.ownBlock = some k → ¬ M k) (hd : ∀ x ∈ PS, ¬ M x.1) : PlK w w3 rb hb PS u W' := by
  have s := c.size
  have z := h.sz
  exact ⟨Chg.trans h.new c fun k hk e => hw k hk e, by omega, h.rules.chg c hr, h.had.chg c hh, h.own.chg (plain_one _) c fun k hk e => hu k hk e, fun x hx => by
    obtain ⟨h1, h2, h3, h4⟩ := h.dev x hx
    exact ⟨h1, by omega, h3.chg c (hd x hx), h4⟩, h.apart⟩
theorem PlK.nw {w w3 : World} {rb hb : Nat} {PS : List Pd} {u : Value} {W W' : World} (h : PlK w w3 rb hb PS u W) (n : New W W') : PlK w w3 rb hb PS u W' :=
  h.chg n (fun _ _ e => e) (fun e => e) (fun e => e) (fun _ _ e => e) (fun _ _ e => e)
def setPd (PS : List Pd) (nb : Nat) (p : List UInt8) (d : Dv) : List Pd := PS.map fun x => if x.1 = nb then (nb, p, d) else x
/-- A device is turned. -/
theorem PlK.set {w w3 : World} {rb hb : Nat} {PS : List Pd} {u : Value} {W W' : World} {nb : Nat} {p : List UInt8} {d d' : Dv} (h : PlK w w3 rb hb PS u W) (hin : (nb, p, d) ∈ PS) (c : Chg (fun k => k = nb) W W') (hbk : Bk W' nb tDev (dvC p d'))
    (hw : w.heap.size ≤ w3.heap.size) (hr : rb < w3.heap.size) (hh : hb < w3.heap.size) : PlK w w3 rb hb (setPd PS nb p d') u W' := by
  have s := c.size
  have z := h.sz
  obtain ⟨k1, k2, k3, k4⟩ := h.dev _ hin
  dsimp only at k1 k2 k3 k4
  have hx1 : ∀ x : Pd, (if x.1 = nb then ((nb, p, d') : Pd) else x).1 = x.1 := fun x => by split <;> simp_all
  have hmap : ∀ {β : Type} (f : Pd → β), (∀ x ∈ PS, f (if x.1 = nb then (nb, p, d') else x) = f x) → (setPd PS nb p d').map f = PS.map f := by
    intro β f hf
    unfold setPd
    rw [List.map_map]
    exact List.map_congr_left fun x hx => hf x hx
  have hK : (setPd PS nb p d').map pdK = PS.map pdK := hmap _ fun x hx => by
    by_cases e : x.1 = nb
    · have := uniq_of h.apart x hx _ hin e
      subst this
      simp
    · rw [if_neg e]
  have hV : (setPd PS nb p d').map pdV = PS.map pdV := hmap _ fun x hx => by show pT _ = pT _; rw [hx1]
  refine ⟨Chg.trans h.new c fun k hk e => by omega, by omega, h.rules.chg c (by omega), ?_, ?_, ?_, ?_⟩
  · rw [hK]; exact h.had.chg c (by omega)
  · have o := (h.own.chg (plain_one _) c fun k hk e => k4 (e ▸ hk)).to1
    refine OwnS.of1 (m := PS.length) (by unfold setPd; simp) ?_
    rw [hV]; exact o
  · intro x hx
    unfold setPd at hx
    obtain ⟨y, hy, rfl⟩ := List.mem_map.1 hx
    obtain ⟨j1, j2, j3, j4⟩ := h.dev y hy
    rw [hx1]
    refine ⟨j1, by omega, ?_, j4⟩
    by_cases e : y.1 = nb
    · rw [if_pos e, e]; exact hbk
    · rw [if_neg e]; exact j3.chg c e
  · unfold setPd
    rw [List.pairwise_map]
    refine h.apart.imp fun {a b} hab => ?_
    rw [hx1, hx1]; exact hab
theorem vs_inj {a b : List UInt8} (h : vs a = vs b) : a = b := by simpa using h
theorem play_err {l : List Ev} {i : Nat} {y : Ev} {S : DS} (h : playS ((l.take i).map pk) 0 [] = .inr S) (hy : l[i]? = some y) (hs : stepD S y.pa y.kd = none) : playM l = .inl i := by
  have hl := (List.getElem?_eq_some_iff.1 hy).1
  have h1 := play_snoc (x := pk y) h
  rw [show stepD S (pk y).1 (pk y).2 = none from hs] at h1
  dsimp only at h1
  have h2 : (l.take (i + 1)).map pk = (l.take i).map pk ++ [pk y] := by rw [take_snoc' hy, List.map_append]; rfl
  rw [← h2] at h1
  have h3 := play_more (r := (l.drop (i + 1)).map pk) h1
  rw [← List.map_append, List.take_append_drop] at h3
  unfold playM
  rw [h3]
  simp
  omega
theorem play_ok {l : List Ev} {i : Nat} {y : Ev} {S S' : DS} (h : playS ((l.take i).map pk) 0 [] = .inr S) (hy : l[i]? = some y) (hs : stepD S y.pa y.kd = some S') : playS ((l.take (i + 1)).map pk) 0 [] = .inr S' := by
  have h1 := play_snoc (x := pk y) h
  rw [show stepD S (pk y).1 (pk y).2 = some S' from hs] at h1
  rw [take_snoc' hy, List.map_append]
  exact h1
abbrev dvE : List UInt8 × Dv → List Value := fun x => dvC x.1 x.2
theorem goodDv : GoodR (Wk.flat dvE) 5 := good_flat _ (fun _ => rfl) fun x => dvC_one _ _
/-- What Play answers. -/
def PlayR (w : World) (l : List Ev) (r : Value) (w' : World) : Prop :=
  (∀ n, playM l = .inl n → r = .tuple #[.slice none 0 0, vi n, vi 300]) ∧ (∀ S, playM l = .inr S → ∃ v R, SortOf S R ∧ r = .tuple #[v, vi 0, vi 0] ∧ OwnS (Wk.flat dvE) tDev 5 (fun k => w.heap.size ≤ k) No w' v R) ∧ New w w'
theorem PlayR.bad {w w' : World} {l : List Ev} {i : Nat} (h : playM l = .inl i) (n : New w w') : PlayR w l (.tuple #[.slice none 0 0, vi i, vi 300]) w' :=
  ⟨fun m hm => by rw [h] at hm; cases hm; rfl, fun S hS => (by rw [h] at hS; cases hS), n⟩
set_option maxRecDepth 8000 in
set_option maxHeartbeats 4000000 in
theorem Play_spec {Pb : Nat → Prop} {w : World} {v : Value} {l : List Ev} (h : RdS rEv 6 Pb w v l) (hl : l.length ≤ 2000000) (hw : ∀ e ∈ l, e.kd < 256 ∧ e.pa.length ≤ 100000000) :
    Calls Tryz.prog 18 #[v] w (Ret fun r w' => PlayR w l r w') := by
  obtain ⟨a, cp, rfl, hc1, hc2⟩ := h.form
  simp only [maxLen] at hc2
  refine calls_of_Wc Tryz.func18 rfl Tryz.ntmps18 rfl ?_
  (repeat' (first | refine Wl.assignE (by conv => { lhs; whnf }) ?_ | refine Wl.nil ?_ | refine Qseq.normal ?_ | refine Wc.seq ?_ | refine Wc.region ?_))
  refine Wl.call rules_spec rfl ?_
  rintro _ w1 ⟨rb, rfl, m1, hrb, n1⟩
  (repeat' (first | refine Wl.assignE (by conv => { lhs; whnf }) ?_ | refine Wl.nil ?_ | refine Qseq.normal ?_ | refine Wc.seq ?_ | refine Wc.region ?_))
  refine Wl.makeMap (k := 9) fun w3 m3 n3 s3 => ?_
  have z1 := n1.size
  have z3 := n3.size
  have hr1 := m1.lt
  have k0 : PlK w w3 rb w1.heap.size [] (.slice none 0 0) w3 := ⟨n1.trans n3, Nat.le_refl _, m1.chg n3 (fun e => e), m3, OwnS.nil, fun x hx => by simp at hx, .nil⟩
  clear m1 m3 n1
  (repeat' (first | refine Wl.moveE (by conv => { lhs; whnf }) ?_ | refine Wl.assignE (by conv => { lhs; whnf }) ?_ | refine Wl.nil ?_ | refine Wl.lenS rfl ?_ | refine Qseq.normal ?_ | refine Wc.seq ?_ | refine Wc.region ?_ | refine Wc.block ?_))
  refine Wc.loop (σ := Nat × List Pd × Value) (fun s => [(0, .slice a l.length cp), (5, .map (some rb)), (6, .map (some w1.heap.size)), (7, s.2.2), (18, .slice a l.length cp), (19, vi l.length), (20, vi s.1)]) (fun s W => s.1 ≤ l.length ∧ s.2.1.length ≤ s.1 ∧ PlK w w3 rb w1.heap.size s.2.1 s.2.2 W ∧ playS ((l.take s.1).map pk) 0 [] = .inr (s.2.1.map (·.2))) (fun s => l.length - s.1) (0, [], .slice none 0 0) ⟨rfl, rfl, rfl, rfl, rfl, rfl, rfl, trivial⟩ ⟨Nat.zero_le _, Nat.le_refl _, k0, by simp [playS]⟩ ?_
  clear k0
  rintro ⟨i, PS, u⟩ G W ⟨hi, hfew, K, hplay⟩
  dsimp only at hi hfew K hplay
  simp only [upds]
  have zW := K.new.size
  have hks := Keys.play (S := []) .nil hplay
  (repeat' (first | refine Wl.moveE (by conv => { lhs; whnf }) ?_ | refine Wl.nil ?_ | refine Qseq.normal ?_ | refine Wc.seq ?_ | refine Wc.region ?_ | refine Wc.block ?_ | refine Wc.skip ?_ | refine Wc.exit ?_ | refine Qseq.exit ?_ | refine Qblk.hit ?_ | refine Qloop.exit ?_ | refine Wc.condT rfl ?_ | refine Wc.condF rfl ?_ | refine Wl.lss rfl rfl (fun _ => ?_) (fun _ => ?_)))
  · obtain ⟨y, hy⟩ := get_lt l (k := i) (by omega)
    obtain ⟨hyk, hyp⟩ := hw y (List.mem_of_getElem? hy)
    refine Wl.idxAddr (h.keep (stable_flat _) K.new.keep) rfl rfl (by omega) (by rw [Int.toNat_natCast]; exact hy) fun bb o cs hcl hR hat => ?_
    obtain rfl : cs = evC y := hR
    refine Wl.loadAt hat rfl rfl ?_
    refine Wl.alloc fun W2 b2 m2 s2 => ?_
    (repeat' (refine Wl.assignE (by conv => { lhs; whnf }) ?_))
    refine Wl.storeB (o := 0) (new := evC y) b2 rfl rfl rfl rfl (Nat.le_refl 6) (evC_one _) fun W3 b3 c3 s3' => ?_
    replace b3 : Bk W3 W.heap.size 27 (evC y) := b3
    have m03 : New W W3 := Chg.trans m2 c3 fun _ _ e => by omega
    have K3 := K.nw m03
    have e3 := b3.lt
    have zK := K.sz
    clear b2 m2 c3 s2 s3' hat
    have bad : ∀ W', New w W' → stepD (PS.map (·.2)) y.pa y.kd = none → PlayR w l (.tuple #[.slice none 0 0, vi i, vi 300]) W' := fun W' n hs => .bad (play_err hplay hy hs) n
    (repeat' (first | refine Wl.moveE (by conv => { lhs; whnf }) ?_ | refine Wl.nil ?_ | refine Qseq.normal ?_ | refine Wc.seq ?_ | refine Wc.region ?_ | refine Wl.fieldAddr rfl rfl ?_))
    refine Wl.load1 (u := .int .u8 y.kd) rfl (b3.cell (o := 3) rfl) ?_
    refine Wl.lookupOk (key := .int .u8 y.kd) kB K3.rules (keyB hyk) rfl rfl (fun r hr => ?_) (fun hno => ?_)
    rotate_left
    · have hk := rule_out hno
      (repeat' (first | refine Wl.moveE (by conv => { lhs; whnf }) ?_ | refine Wl.extract rfl rfl ?_))
      refine Wl.alloc fun W4 b4 n4 s4 => ?_
      refine Wl.storeB (o := 0) (new := [.nilFunc, .nilFunc]) b4 rfl rfl rfl rfl (by decide) (by simp [Value.oneCell']) fun W5 b5 c5 s5 => ?_
      have n35 : New W3 W5 := Chg.trans n4 c5 fun _ _ e => by omega
      (repeat' (first | refine Wl.moveE (by conv => { lhs; whnf }) ?_ | refine Wl.assignE (by conv => { lhs; whnf }) ?_ | refine Wl.nil ?_ | refine Wl.guardN rfl rfl ?_ | refine Wl.pickTE rfl (by conv => { lhs; whnf }) ?_ | refine Wl.notB rfl ?_ | refine Qseq.normal ?_ | refine Wc.seq ?_ | refine Wc.region ?_ | refine Wc.ret ?_ | refine Qseq.ret ?_ | refine Qblk.ret ?_ | refine Qloop.ret ?_ | refine Wc.condT rfl ?_))
      refine Qfn.ret3 rfl rfl rfl rfl ⟨_, rfl, bad _ (K3.new.trans n35) ?_⟩
      unfold stepD
      rw [if_neg (fun hc => hc.1 (nameK_nil.2 hk))]
    obtain ⟨hk1, hk9, rfl⟩ := rule_in hr
    (repeat' (first | refine Wl.moveE (by conv => { lhs; whnf }) ?_ | refine Wl.extract rfl rfl ?_))
    refine Wl.alloc fun W4 b4 n4 s4 => ?_
    refine Wl.storeB (o := 0) (new := [.func (.func (mayF y.kd)) #[] #[], .func (.func (doF y.kd)) #[] #[]]) b4 rfl rfl rfl rfl (Nat.le_refl 2) (by simp [Value.oneCell']) fun W5 b5 c5 s5 => ?_
    replace b5 : Bk W5 W3.heap.size 82 [.func (.func (mayF y.kd)) #[] #[], .func (.func (doF y.kd)) #[] #[]] := b5
    have n35 : New W3 W5 := Chg.trans n4 c5 fun _ _ e => by omega
    have b5' := b3.chg n35 (fun e => e)
    have K5 := K3.nw n35
    have e5 := b5.lt
    clear b4 n4 c5 s4 s5 hr
    (repeat' (first | refine Wl.moveE (by conv => { lhs; whnf }) ?_ | refine Wl.assignE (by conv => { lhs; whnf }) ?_ | refine Wl.nil ?_ | refine Wl.guardY rfl rfl ?_ | refine Wl.notB rfl ?_ | refine Qseq.normal ?_ | refine Wc.seq ?_ | refine Wc.region ?_ | refine Wl.fieldAddr rfl rfl ?_))
    refine Wl.load1 (u := vs y.pa) rfl (b5'.cell (o := 4) rfl) ?_
    (try refine Wl.guardY rfl rfl ?_)
    refine Wl.call (path_spec hyp) rfl ?_
    rintro _ W6 ⟨rfl, n6⟩
    cases hpa : pathM y.pa with
    | false =>
      (repeat' (first | refine Wl.moveE (by conv => { lhs; whnf }) ?_ | refine Wl.assignE (by conv => { lhs; whnf }) ?_ | refine Wl.nil ?_ | refine Wl.guardY rfl rfl ?_ | refine Wl.pickFE rfl (by conv => { lhs; whnf }) ?_ | refine Wl.notB rfl ?_ | refine Qseq.normal ?_ | refine Wc.seq ?_ | refine Wc.region ?_ | refine Wc.ret ?_ | refine Qseq.ret ?_ | refine Qblk.ret ?_ | refine Qloop.ret ?_ | refine Wc.condT rfl ?_))
      refine Qfn.ret3 rfl rfl rfl rfl ⟨_, rfl, bad _ (K3.new.trans (n35.trans n6)) ?_⟩
      unfold stepD
      rw [if_neg (fun hc => by rw [hpa] at hc; exact absurd hc.2.1 (by simp))]
    | true =>
    have b6 := b5.chg n6 (fun e => e)
    have b6' := b5'.chg n6 (fun e => e)
    have K6 := K5.nw n6
    have n36 := n35.trans n6
    have z36 := n36.size
    clear b5 b5' K5 n6 n35 b3
    have hkd : nameK y.kd ≠ [] := fun e => by rw [nameK_nil] at e; omega
    obtain ⟨q, hq⟩ := keyS y.pa (by simp only [maxLen]; omega)
    (repeat' (first | refine Wl.nil ?_ | refine Wl.guardY rfl rfl ?_ | refine Wl.pickFE rfl (by conv => { lhs; whnf }) ?_ | refine Wl.notB rfl ?_ | refine Qseq.normal ?_ | refine Wc.skip ?_ | refine Wc.condF rfl ?_))
    refine Wc.seq ?_
    (repeat' (first | refine Wl.moveE (by conv => { lhs; whnf }) ?_ | refine Wc.region ?_ | refine Wl.fieldAddr rfl rfl ?_))
    refine Wl.load1 (u := vs y.pa) rfl (b6'.cell (o := 4) rfl) ?_
    refine Wl.lookup (key := vs y.pa) kS K6.had hq rfl rfl fun r hr => ?_
    (repeat' (first | refine Wl.assignE (by conv => { lhs; whnf }) ?_ | refine Wl.nil ?_ | refine Qseq.normal ?_))
    have zK6 := K6.sz
    have hil := (List.getElem?_eq_some_iff.1 hy).1
    refine Wc.cutR (fun F W' => ∃ (PS1 : List Pd) (u1 : Value) (nb : Nat) (d : Dv), agrees F [(0, .slice a l.length cp), (5, .map (some rb)), (6, .map (some w1.heap.size)), (7, u1), (8, vi i), (10, pT W3.heap.size), (12, pT nb), (18, .slice a l.length cp), (19, vi l.length), (20, vi i)] ∧ PlK w w3 rb w1.heap.size PS1 u1 W' ∧ (nb, y.pa, d) ∈ PS1 ∧ d = (look (PS.map (·.2)) y.pa).getD dv0 ∧
      (∀ d', putD (PS.map (·.2)) y.pa d' = (setPd PS1 nb y.pa d').map (·.2)) ∧ PS1.length ≤ i + 1 ∧ Bk W' W3.heap.size 82 [.func (.func (mayF y.kd)) #[] #[], .func (.func (doF y.kd)) #[] #[]]) ?_ ?_
    · rcases hr with hr | ⟨rfl, hno⟩
      · obtain ⟨⟨nb, p', d⟩, hin, e⟩ := List.mem_map.1 hr
        obtain ⟨e1, rfl⟩ := Prod.mk.inj e
        obtain rfl := vs_inj e1
        have hin2 : (y.pa, d) ∈ PS.map (·.2) := List.mem_map.2 ⟨_, hin, rfl⟩
        have hlook := hks.look hin2
        (repeat' (first | refine Wl.moveE (by conv => { lhs; whnf }) ?_ | refine Wc.seq ?_ | refine Wc.region ?_))
        refine Wl.peqNil rfl rfl ?_
        (repeat' (first | refine Wl.nil ?_ | refine Qseq.normal ?_ | refine Wc.skip ?_ | refine Wc.condF rfl ?_))
        refine Qm.normal ⟨PS, u, nb, d, ⟨rfl, rfl, rfl, rfl, rfl, rfl, rfl, rfl, rfl, rfl, trivial⟩, K6, hin, by rw [hlook]; rfl, fun d' => ?_, by omega, b6⟩
        rw [putD_keys _ _ _ (by rw [hlook]; simp)]
        unfold setPd
        rw [List.map_map, List.map_map]
        refine List.map_congr_left fun x hx => ?_
        simp only [Function.comp]
        by_cases e : x.1 = nb
        · have := uniq_of K6.apart x hx _ hin e
          subst this
          simp
        · have hne : x.2.1 ≠ y.pa := fun e2 => by
            have hkp : PS.Pairwise fun a b : Pd => a.2.1 ≠ b.2.1 := by
              have := hks; unfold Keys at this; rwa [List.pairwise_map] at this
            exact e (congrArg (·.1) (uniq_of (f := fun x : Pd => x.2.1) hkp x hx _ hin e2))
          rw [if_neg e, if_neg hne]
      · have hnl : look (PS.map (·.2)) y.pa = none := look_none.2 fun e he e2 => by
          obtain ⟨x, hx, rfl⟩ := List.mem_map.1 he
          exact hno (pdK x) (List.mem_map.2 ⟨x, hx, rfl⟩) (by show vs x.2.1 = vs y.pa; rw [e2])
        (repeat' (first | refine Wl.moveE (by conv => { lhs; whnf }) ?_ | refine Wc.seq ?_ | refine Wc.region ?_))
        refine Wl.peqNil rfl rfl ?_
        (repeat' (first | refine Wl.nil ?_ | refine Qseq.normal ?_ | refine Wc.seq ?_ | refine Wc.region ?_ | refine Wc.condT rfl ?_ | refine Wl.fieldAddr rfl rfl ?_))
        refine Wl.load1 (u := vs y.pa) rfl (b6'.cell (o := 4) rfl) ?_
        refine Wl.buildG (u := dvV y.pa dv0) rfl (by kernel_rfl) ?_
        refine Wl.box rfl fun W7 b7 n7 s7 => ?_
        replace b7 : Bk W7 W6.heap.size tDev (dvC y.pa dv0) := b7
        have K7 := K6.nw n7
        have bx7 := b6'.chg n7 (fun e => e)
        have br7 := b6.chg n7 (fun e => e)
        have z7 := n7.size
        have e7 := b7.lt
        (repeat' (first | refine Wl.moveE (by conv => { lhs; whnf }) ?_ | refine Wl.assignE (by conv => { lhs; whnf }) ?_ | refine Wl.nil ?_ | refine Qseq.normal ?_ | refine Wc.seq ?_ | refine Wc.region ?_ | refine Wl.fieldAddr rfl rfl ?_))
        refine Wl.load1 (u := vs y.pa) rfl (bx7.cell (o := 4) rfl) ?_
        (repeat' (refine Wl.moveE (by conv => { lhs; whnf }) ?_))
        refine Wl.mapPut (key := vs y.pa) (u := pT W6.heap.size) kS K7.had hq hno rfl rfl rfl fun W8 m8 c8 s8 => ?_
        have b8 := b7.chg c8 (by omega)
        have br8 := br7.chg c8 (by omega)
        have o8 := K7.own.chg (plain_one _) c8 fun k hk e => by have := (K7.own.lt hk).1; omega
        (repeat' (first | refine Wl.moveE (by conv => { lhs; whnf }) ?_ | refine Wl.nil ?_ | refine Qseq.normal ?_ | refine Wc.region ?_))
        refine Wl.append1 (y := (W6.heap.size, y.pa, dv0)) goodPd o8 rfl rfl rfl rfl rfl (by omega) (by omega) (by simp only [maxLen]; omega) (by omega) rfl rfl fun u' W9 p o9 c9 lie => ?_
        (repeat' (first | refine Wl.assignE (by conv => { lhs; whnf }) ?_ | refine Wl.nil ?_))
        have hub : ∀ k, u.ownBlock = some k → w3.heap.size ≤ k ∧ k < W6.heap.size ∧ k < W.heap.size := fun k hk => ⟨(K6.own.lt hk).1, (K6.own.lt hk).2, (K.own.lt hk).2⟩
        have zW3 := m03.size
        have c79 : Chg (fun k => k = w1.heap.size ∨ u.ownBlock = some k) W7 W9 := Chg.trans (c8.mono fun _ _ e => .inl e) c9 fun _ _ e => .inr e
        have s79 := c79.size
        refine Qm.normal ⟨PS ++ [(W6.heap.size, y.pa, dv0)], u', W6.heap.size, dv0, ⟨rfl, rfl, rfl, rfl, rfl, rfl, rfl, rfl, rfl, rfl, trivial⟩, ⟨?_, by omega, ?_, ?_, ?_, ?_, ?_⟩, by simp, by rw [hnl]; rfl, fun d' => ?_, by simp; omega, ?_⟩
        · exact Chg.trans K7.new c79 fun k hk e => by
            rcases e with e | e
            · omega
            · have := hub k e; omega
        · exact K7.rules.chg c79 (by
            rintro (e | e)
            · omega
            · have := hub _ e; omega)
        · rw [List.map_append]
          exact m8.chg c9 fun e => by have := hub _ e; omega
        · exact o9.mono goodPd.mo (fun k _ e => by rcases e with e | e <;> omega) fun _ _ e => e
        · intro x hx
          have hu' : ∀ k, k < W8.heap.size → u.ownBlock ≠ some k → u'.ownBlock ≠ some k := fun k hk hne e => by
            rcases lie with lie | lie
            · rw [lie] at e; exact hne e
            · have := lie k e; omega
          rcases List.mem_append.1 hx with hx | hx
          · obtain ⟨j1, j2, j3, j4⟩ := K7.dev x hx
            have j2' := (K6.dev x hx).2.1
            refine ⟨j1, by omega, j3.chg c79 ?_, hu' _ (by omega) j4⟩
            rintro (e | e)
            · omega
            · exact j4 e
          · rw [List.mem_singleton.1 hx]
            refine ⟨by show w3.heap.size ≤ W6.heap.size; omega, by show W6.heap.size < _; omega, b8.chg c9 fun e => by have := (hub _ e).2.1; omega, hu' _ (by show W6.heap.size < _; omega) fun e => by have := (hub _ e).2.1; omega⟩
        · rw [List.pairwise_append]
          refine ⟨K6.apart, List.pairwise_singleton _ _, fun x hx z hz => ?_⟩
          rw [List.mem_singleton.1 hz]
          have := (K6.dev x hx).2.1
          show x.1 ≠ W6.heap.size
          omega
        · rw [putD_new _ _ _ hnl]
          unfold setPd
          rw [List.map_append, List.map_append]
          congr 1
          · rw [List.map_map]
            refine List.map_congr_left fun x hx => ?_
            have := (K6.dev x hx).2.1
            simp only [Function.comp]
            rw [if_neg (by omega)]
          · simp
        · exact br8.chg c9 fun e => by have := hub _ e; omega
    · rintro F7 W7 ⟨PS1, u1, nb, d, ag, K7, hin, hd, hput, hlen, b7⟩
      refine Wc.frame _ ag fun G4 => ?_
      simp only [upds]
      clear ag b6 b6' K6 K3 hr
      obtain ⟨j1, j2, j3, j4⟩ := K7.dev _ hin
      dsimp only at j1 j2 j3 j4
      (repeat' (refine Wc.seq ?_))
      refine Wc.regionT rfl (by kernel_rfl) (New W7) (Chg.drew _ _) ?_
      intro W8 n8
      (repeat' (refine Wt.quiet rfl (Wq.fieldAddr rfl rfl (Wq.nil ?_))))
      refine Wt.quiet rfl (Wq.load1 (u := .func (.func (mayF y.kd)) #[] #[]) rfl (fun w' n => (b7.chg n (fun e => e)).cell (o := 0) rfl) (Wq.nil ?_))
      (repeat' (first | refine Wt.quiet rfl (Wq.moveE (by conv => { lhs; whnf }) (Wq.nil ?_)) | refine Wt.quiet rfl (Wq.nilP rfl (Wq.nil ?_))))
      refine Wt.quiet rfl (Wq.loadAt (cs := dvC y.pa d) (fun w' n => (j3.chg n (fun e => e)).at) rfl rfl (Wq.nil ?_))
      haveI := may_call hk1 hk9
      haveI := do_call hk1 hk9
      refine Wt.chain rfl (Wl.callV rfl (may_spec hk1 hk9) rfl ?_)
      rintro _ W9 ⟨rfl, n9⟩
      replace n9 := n8.trans n9
      refine Wl.nil ⟨rfl, n9, ?_⟩
      have K9 := K7.nw n9
      cases hmay : mayM d y.kd with
      | false =>
        (repeat' (first | refine Wt.nil ?_ | refine Wt.quiet rfl (Wq.notB rfl (Wq.nil ?_))))
        (repeat' (first | refine Wl.moveE (by conv => { lhs; whnf }) ?_ | refine Wl.assignE (by conv => { lhs; whnf }) ?_ | refine Wl.nil ?_ | refine Qseq.normal ?_ | refine Wc.seq ?_ | refine Wc.region ?_ | refine Wc.ret ?_ | refine Qseq.ret ?_ | refine Qblk.ret ?_ | refine Qloop.ret ?_ | refine Wc.condT rfl ?_))
        refine Qfn.ret3 rfl rfl rfl rfl ⟨_, rfl, bad _ K9.new ?_⟩
        unfold stepD
        rw [if_neg (fun hc => by rw [← hd, hmay] at hc; exact absurd hc.2.2 (by simp))]
      | true =>
        have b9 := b7.chg n9 (fun e => e)
        have j9 := j3.chg n9 (fun e => e)
        (repeat' (first | refine Wt.nil ?_ | refine Wt.quiet rfl (Wq.notB rfl (Wq.nil ?_))))
        (repeat' (first | refine Qseq.normal ?_ | refine Wc.region ?_ | refine Wc.skip ?_ | refine Wc.condF rfl ?_ | refine Wl.fieldAddr rfl rfl ?_))
        refine Wl.load1 (u := .func (.func (doF y.kd)) #[] #[]) rfl (b9.cell (o := 1) rfl) ?_
        (repeat' (refine Wl.moveE (by conv => { lhs; whnf }) ?_))
        refine Wl.callV rfl (do_spec hk1 hk9 j9) rfl ?_
        rintro _ Wa ⟨ja, ca⟩
        (repeat' (first | refine Wl.moveE (by conv => { lhs; whnf }) ?_ | refine Wl.nil ?_ | refine Qseq.normal ?_ | refine Wc.region ?_ | refine Qblk.normal ?_ | refine Wl.add rfl rfl (by omega) (by omega) ?_))
        have hs : stepD (PS.map (·.2)) y.pa y.kd = some ((setPd PS1 nb y.pa (doM d y.kd)).map (·.2)) := by
          unfold stepD
          rw [← hd, if_pos ⟨hkd, hpa, hmay⟩, hput]
        exact Qloop.normal (i + 1, setPd PS1 nb y.pa (doM d y.kd), u1) ⟨rfl, rfl, rfl, rfl, rfl, rfl, rfl, trivial⟩ ⟨by dsimp only; omega, by dsimp only [setPd]; rw [List.length_map]; exact hlen, K9.set hin ca ja (by omega) (by omega) (by omega), play_ok hplay hy hs⟩ (by dsimp only; omega)
  · have e : i = l.length := by omega
    subst e
    rw [List.take_length] at hplay
    have hkp : PS.Pairwise fun a b : Pd => a.2.1 ≠ b.2.1 := by
      have := hks; unfold Keys at this; rwa [List.pairwise_map] at this
    refine Wl.call (sort_spec K.own (fun x hx => (K.dev x hx).2.2.1) hkp (fun x hx => (K.dev x hx).2.2.2) (by omega)) rfl ?_
    rintro _ W1 ⟨L, hperm, hsort, o1, c1⟩
    have hdev : ∀ x ∈ L, Bk W1 x.1 tDev (dvC x.2.1 x.2.2) := fun x hx => by
      have hx' := hperm.mem_iff.1 hx
      exact (K.dev x hx').2.2.1.chg c1 (K.dev x hx').2.2.2
    have hub : ∀ k, u.ownBlock = some k → w3.heap.size ≤ k := fun k hk => (K.own.lt hk).1
    have n01 : New w W1 := Chg.trans K.new c1 fun k hk e => by have := hub k e; omega
    have hS : SortOf (PS.map (·.2)) (L.map (·.2)) := ⟨hperm.map _, by rw [List.pairwise_map]; exact hsort⟩
    have hLl := hperm.length_eq
    obtain ⟨aL, cL, rfl, _, _⟩ := o1.form
    (repeat' (first | refine Wl.moveE (by conv => { lhs; whnf }) ?_ | refine Wl.assignE (by conv => { lhs; whnf }) ?_ | refine Wl.nil ?_ | refine Wl.lenS rfl ?_ | refine Qseq.normal ?_ | refine Wc.seq ?_ | refine Wc.region ?_ | refine Wc.block ?_))
    refine Wc.loop (σ := Nat × Value) (fun s => [(13, s.2), (74, .slice aL L.length cL), (75, vi L.length), (76, vi s.1)]) (fun s W' => s.1 ≤ L.length ∧ New W1 W' ∧ OwnS (Wk.flat dvE) tDev 5 (fun k => W1.heap.size ≤ k) No W' s.2 ((L.take s.1).map (·.2))) (fun s => L.length - s.1) (0, .slice none 0 0) ⟨rfl, rfl, rfl, rfl, trivial⟩ ⟨Nat.zero_le _, Chg.refl _ _, OwnS.nil⟩ ?_
    rintro ⟨j, g⟩ G2 W2 ⟨hj, n2, og⟩
    dsimp only at hj og
    simp only [upds]
    have z01 := n01.size
    have z2 := n2.size
    have o2 := o1.new (plain_one _) n2
    (repeat' (first | refine Wl.moveE (by conv => { lhs; whnf }) ?_ | refine Wl.assignE (by conv => { lhs; whnf }) ?_ | refine Wl.nil ?_ | refine Qseq.normal ?_ | refine Wc.seq ?_ | refine Wc.region ?_ | refine Wc.block ?_ | refine Wc.skip ?_ | refine Wc.exit ?_ | refine Wc.ret ?_ | refine Qseq.exit ?_ | refine Qblk.hit ?_ | refine Qloop.exit ?_ | refine Wc.condT rfl ?_ | refine Wc.condF rfl ?_ | refine Wl.lss rfl rfl (fun _ => ?_) (fun _ => ?_)))
    · obtain ⟨x, hx⟩ := get_lt L (k := j) (by omega)
      refine Wl.idxAddrV (o2.rd goodPd.mo) rfl rfl (by omega) (by rw [Int.toNat_natCast]; exact hx) fun bb o hc => ?_
      refine Wl.load1 rfl hc ?_
      (repeat' (first | refine Wl.moveE (by conv => { lhs; whnf }) ?_ | refine Wl.assignE (by conv => { lhs; whnf }) ?_ | refine Wl.nil ?_ | refine Qseq.normal ?_ | refine Wc.region ?_ | refine Wl.nilP rfl ?_))
      refine Wl.loadB ((hdev x (List.mem_of_getElem? hx)).chg n2 (fun e => e)) rfl rfl ?_
      refine Wl.append1 (y := x.2) goodDv og rfl rfl rfl rfl rfl (by omega) (by omega) (by simp only [maxLen, List.length_map, List.length_take]; omega) (by simp only [List.length_map, List.length_take]; omega) rfl rfl fun g' W3 p og3 c3 _ => ?_
      have e : (L.take j).map (·.2) ++ [x.2] = (L.take (j + 1)).map (·.2) := by rw [take_snoc' hx, List.map_append]; rfl
      rw [e] at og3
      (repeat' (first | refine Wl.moveE (by conv => { lhs; whnf }) ?_ | refine Wl.assignE (by conv => { lhs; whnf }) ?_ | refine Wl.nil ?_ | refine Qseq.normal ?_ | refine Wc.region ?_ | refine Qblk.normal ?_ | refine Wl.add rfl rfl (by omega) (by omega) ?_))
      refine Qloop.normal (j + 1, g') ⟨rfl, rfl, rfl, rfl, trivial⟩ ⟨by dsimp only; omega, Chg.trans n2 c3 fun k hk e => by have := (og.lt e).1; omega, og3.mono goodDv.mo (fun k _ hk => by rcases hk with hk | hk <;> omega) fun _ _ e => e⟩ (by dsimp only; omega)
    · have e : j = L.length := by omega
      subst e
      rw [List.take_length] at og
      exact Qfn.ret3 rfl rfl rfl rfl ⟨_, rfl, fun m hm => (by unfold playM at hm; rw [hplay] at hm; cases hm), fun S hS' => (by unfold playM at hS'; rw [hplay] at hS'; cases hS'; exact ⟨_, _, hS, rfl, og.mono goodDv.mo (fun k _ e => by omega) fun _ _ e => e⟩), n01.trans n2⟩
end Go.Proofs.YtjaendlcijmifaaGreatDoor

namespace Go.Proofs.YtjaendlcijmifaaGreatDoor
open Go Wk
open Go.RowKit (Below)
attribute [local irreducible] Go.Calls

set_option maxRecDepth 8000 in
set_option maxHeartbeats 4000000 in
theorem none_law {w : World} (ht : Tb w) (hE : ErrV w) :
    Calls Tryz.prog 4 #[] w (Ret fun r w' => r = .bool true ∧ New w w') := by
  refine calls_of_Wc Tryz.func4 rfl Tryz.ntmps4 rfl ?_
  (repeat' (first | refine Wl.moveE (by conv => { lhs; whnf }) ?_ | refine Wl.assignE (by conv => { lhs; whnf }) ?_ | refine Wl.nil ?_ | refine Qseq.normal ?_ | refine Wc.seq ?_ | refine Wc.region ?_))
  refine Wl.call (Add_nil (ca := 0) (tm := 0) (kd := 9) (pa := [47]) (ar := 0)) rfl ?_
  rintro _ _ ⟨rfl, rfl⟩
  (repeat' (first | refine Wl.moveE (by conv => { lhs; whnf }) ?_ | refine Wl.assignE (by conv => { lhs; whnf }) ?_ | refine Wl.nil ?_ | refine Wl.extract rfl rfl ?_ | refine Qseq.normal ?_ | refine Wc.seq ?_ | refine Wc.region ?_))
  refine Wl.call (Get_nil (id := 1)) rfl ?_
  rintro _ w0 ⟨rfl, n0⟩
  (repeat' (first | refine Wl.moveE (by conv => { lhs; whnf }) ?_ | refine Wl.extract rfl rfl ?_))
  refine Wl.alloc fun wa ba na sa => ?_
  refine Wl.storeB (o := 0) (new := evC ev0) ba rfl rfl rfl rfl (by decide) (evC_one _) fun w1 bb cb sb => ?_
  have n1 : New w w1 := n0.trans (Chg.trans na cb fun _ _ e => by omega)
  clear n0 ba na sa bb cb sb
  (repeat' (first | refine Wl.moveE (by conv => { lhs; whnf }) ?_ | refine Wl.assignE (by conv => { lhs; whnf }) ?_ | refine Wl.nil ?_ | refine Qseq.normal ?_ | refine Wc.seq ?_ | refine Wc.region ?_))
  refine Wl.call (Why_nil (id := 1)) rfl ?_
  rintro _ w2 ⟨rfl, n2⟩
  replace n2 := n1.trans n2
  clear n1
  (repeat' (first | refine Wl.moveE (by conv => { lhs; whnf }) ?_ | refine Wl.assignE (by conv => { lhs; whnf }) ?_ | refine Wl.nil ?_ | refine Wl.extract rfl rfl ?_ | refine Qseq.normal ?_ | refine Wc.seq ?_ | refine Wc.region ?_))
  refine Wl.call (Led_nil (id := 1)) rfl ?_
  rintro _ w3 ⟨rfl, n3⟩
  replace n3 := n2.trans n3
  clear n2
  (repeat' (first | refine Wl.moveE (by conv => { lhs; whnf }) ?_ | refine Wl.assignE (by conv => { lhs; whnf }) ?_ | refine Wl.nil ?_ | refine Wl.extract rfl rfl ?_ | refine Wl.guardY rfl rfl ?_ | refine Wl.pickFE rfl (by conv => { lhs; whnf }) ?_ | refine Qseq.normal ?_ | refine Wc.seq ?_ | refine Wc.region ?_ | (refine Wl.neq rfl rfl (fun _ => ?_) (fun _ => ?_) <;> (first | (exfalso; omega) | skip))))
  refine Wl.call Lost_nil rfl ?_
  rintro _ _ ⟨rfl, rfl⟩
  (repeat' (first | refine Wl.moveE (by conv => { lhs; whnf }) ?_ | refine Wl.guardY rfl rfl ?_ | refine Wl.pickFE rfl (by conv => { lhs; whnf }) ?_ | (refine Wl.neq rfl rfl (fun _ => ?_) (fun _ => ?_) <;> (first | (exfalso; omega) | skip))))
  refine Wl.call (Lines_nil (ht.new n3)) rfl ?_
  rintro v4 w4 ⟨o4, n4⟩
  replace n4 := n3.trans n4
  obtain ⟨a4, c4, rfl, _, _⟩ := o4.form
  rw [List.length_nil]
  clear o4 n3
  (repeat' (first | refine Wl.moveE (by conv => { lhs; whnf }) ?_ | refine Wl.guardY rfl rfl ?_ | refine Wl.pickFE rfl (by conv => { lhs; whnf }) ?_ | refine Wl.lenS rfl ?_ | (refine Wl.neq rfl rfl (fun _ => ?_) (fun _ => ?_) <;> (first | (exfalso; omega) | skip))))
  refine Wl.call each_nil rfl ?_
  rintro v5 w5 ⟨o5, n5⟩
  replace n5 := n4.trans n5
  obtain ⟨a5, c5, rfl, _, _⟩ := o5.form
  rw [List.length_nil]
  clear o5 n4
  (repeat' (first | refine Wl.nil ?_ | refine Wl.guardY rfl rfl ?_ | refine Wl.pickFE rfl (by conv => { lhs; whnf }) ?_ | refine Wl.lenS rfl ?_ | refine Qseq.normal ?_ | refine Wc.seq ?_ | refine Wc.region ?_ | refine Wc.skip ?_ | refine Wc.condF rfl ?_ | (refine Wl.neq rfl rfl (fun _ => ?_) (fun _ => ?_) <;> (first | (exfalso; omega) | skip))))
  refine Wl.call (New_spec (n := 0)) rfl ?_
  rintro r w6 ⟨hr, n6⟩
  obtain ⟨_, rfl, _⟩ := hr.resolve_right fun e => absurd e.1 (by omega)
  replace n6 := n5.trans n6
  clear n5
  (repeat' (first | refine Wl.moveE (by conv => { lhs; whnf }) ?_ | refine Wl.assignE (by conv => { lhs; whnf }) ?_ | refine Wl.nil ?_ | refine Wl.extract rfl rfl ?_ | refine Qseq.normal ?_ | refine Wc.seq ?_ | refine Wc.region ?_))
  refine Wl.call (New_spec (n := 4097)) rfl ?_
  rintro r w7 ⟨hr, n7⟩
  obtain ⟨_, rfl, _⟩ := hr.resolve_right fun e => absurd e.2.1 (by omega)
  replace n7 := n6.trans n7
  clear n6
  (repeat' (first | refine Wl.moveE (by conv => { lhs; whnf }) ?_ | refine Wl.assignE (by conv => { lhs; whnf }) ?_ | refine Wl.nil ?_ | refine Wl.extract rfl rfl ?_ | refine Qseq.normal ?_ | refine Wc.seq ?_ | refine Wc.region ?_))
  refine Wl.call (New_spec (n := 4096)) rfl ?_
  rintro r w8 ⟨hr, n8⟩
  rcases hr with ⟨hr, _⟩ | ⟨_, _, b, rfl, h8⟩
  · omega
  replace n8 := n7.trans n8
  have z7 := n7.size
  replace h8 : Rg (fun k => w.heap.size ≤ k) w8 b new96 := h8.mono fun k _ e => Nat.le_trans z7 e
  clear n7
  (repeat' (first | refine Wl.moveE (by conv => { lhs; whnf }) ?_ | refine Wl.assignE (by conv => { lhs; whnf }) ?_ | refine Wl.nil ?_ | refine Wl.extract rfl rfl ?_ | refine Qseq.normal ?_ | refine Wc.seq ?_ | refine Wc.region ?_))
  refine Wl.call (Add_spec (ca := 1) (tm := 0) (kd := 9) (pa := [47]) (ar := 0) h8 ⟨by omega, by omega, by omega, by omega, by omega, by omega⟩ (by simp)) rfl ?_
  rintro _ w9 ⟨rfl, h9, c9⟩
  rw [add96] at h9 ⊢
  have z8 := n8.size
  have n9 : New w w9 := Chg.trans n8 c9 fun k hk e => by omega
  replace h9 : Rg (fun k => w.heap.size ≤ k ∧ k < w9.heap.size) w9 b new96 := h9.mono fun k hk e => by rcases e with e | e <;> omega
  have z9 := n9.size
  clear n8 c9 h8
  (repeat' (first | refine Wl.moveE (by conv => { lhs; whnf }) ?_ | refine Wl.assignE (by conv => { lhs; whnf }) ?_ | refine Wl.nil ?_ | refine Wl.extract rfl rfl ?_ | refine Qseq.normal ?_ | refine Wc.seq ?_ | refine Wc.region ?_))
  refine Wl.buildSlice1 (R := Wk.one vs) (Pe := No) (y := endL) goodS rfl rfl rfl rfl (by omega) (by omega) fun v10 w10 o10 n10 s10 e10 => ?_
  have h10 := h9.new n10
  have z10 := n10.size
  replace n10 := n9.trans n10
  skip
  refine Wl.call (Read_spec (n := 1) (ht.new n10) (hE.new n10) (o10.rd goodS.mo) (fun s hs => by obtain rfl := List.mem_singleton.1 hs; decide) (by decide)) rfl ?_
  rintro r w11 ⟨hr, n11⟩
  obtain ⟨b2, t2, rfl, ok2, sz2, ln2, h11⟩ := hr.resolve_left fun e => e.2 _ end_ok rfl (congrArg (fun x => [x]) end_line)
  replace h10 := h10.new n11
  replace n11 := n10.trans n11
  (repeat' (first | refine Wl.moveE (by conv => { lhs; whnf }) ?_ | refine Wl.assignE (by conv => { lhs; whnf }) ?_ | refine Wl.nil ?_ | refine Wl.extract rfl rfl ?_ | refine Qseq.normal ?_ | refine Wc.seq ?_ | refine Wc.region ?_))
  refine Wl.call (Add_spec (ca := 0) (tm := 0) (kd := 9) (pa := [47]) (ar := 0) h11 ⟨by omega, by omega, by omega, by omega, by omega, by omega⟩ (by simp)) rfl ?_
  rintro _ w12 ⟨rfl, _, c12⟩
  rw [end_add ok2 ln2]
  have n12 : New w w12 := Chg.trans n11 c12 fun k hk e => by omega
  have h12 := h10.chg c12 fun k hk e => by omega
  (repeat' (first | refine Wl.moveE (by conv => { lhs; whnf }) ?_ | refine Wl.assignE (by conv => { lhs; whnf }) ?_ | refine Wl.nil ?_ | refine Wl.extract rfl rfl ?_ | refine Qseq.normal ?_ | refine Wc.seq ?_ | refine Wc.region ?_))
  refine Wl.buildSlice1 (R := Wk.one vs) (Pe := No) (y := overL) goodS rfl rfl rfl rfl (by omega) (by omega) fun v13 w13 o13 n13 s13 e13 => ?_
  replace h12 := h12.new n13
  replace n13 := n12.trans n13
  skip
  refine Wl.call (Read_spec (n := 1) (ht.new n13) (hE.new n13) (o13.rd goodS.mo) (fun s hs => by obtain rfl := List.mem_singleton.1 hs; decide) (by decide)) rfl ?_
  rintro r w14 ⟨hr, n14⟩
  obtain ⟨rfl, _⟩ := hr.resolve_right fun e => by
    obtain ⟨_, t, _, ok, _, ln, _⟩ := e
    exact over_no ok ln
  rw [show readE 1 = 4 from rfl]
  have h14 := h12.new n14
  replace n14 := n13.trans n14
  (repeat' (first | refine Wl.moveE (by conv => { lhs; whnf }) ?_ | refine Wl.assignE (by conv => { lhs; whnf }) ?_ | refine Wl.nil ?_ | refine Wl.extract rfl rfl ?_ | refine Qseq.normal ?_ | refine Wc.seq ?_ | refine Wc.region ?_ | refine Wc.block ?_))
  refine Wc.loop (σ := Nat) (fun i => [(12, vi 1), (14, vi 1), (15, pT b), (16, vi 0), (18, vi 1), (20, vi 0), (22, vi 3), (24, vi 4), (25, vs (deepL i)), (26, vi i)]) (fun i W => i ≤ 16 ∧ W = w14) (fun i => 16 - i) 0 ⟨rfl, rfl, rfl, rfl, rfl, rfl, rfl, rfl, rfl, rfl, trivial⟩ ⟨by omega, rfl⟩ ?_
  rintro i G W ⟨hi, rfl⟩
  simp only [upds]
  (repeat' (first | refine Wl.moveE (by conv => { lhs; whnf }) ?_ | refine Wl.nil ?_ | refine Qseq.normal ?_ | refine Wc.seq ?_ | refine Wc.region ?_ | refine Wc.block ?_ | refine Wc.skip ?_ | refine Wc.exit ?_ | refine Qseq.exit ?_ | refine Qblk.hit ?_ | refine Qloop.exit ?_ | refine Wc.condT rfl ?_ | refine Wc.condF rfl ?_ | refine Wl.lss rfl rfl (fun _ => ?_) (fun _ => ?_)))
  · have hdl := deep_len i
    refine Wl.sadd rfl rfl (by simp only [List.length_append, List.length_cons, List.length_nil, maxLen]; omega) ?_
    rw [← deep_succ]
    (repeat' (first | refine Wl.moveE (by conv => { lhs; whnf }) ?_ | refine Wl.assignE (by conv => { lhs; whnf }) ?_ | refine Wl.nil ?_ | refine Qseq.normal ?_ | refine Wc.region ?_ | refine Qblk.normal ?_ | refine Wl.add rfl rfl (by omega) (by omega) ?_))
    exact Qloop.normal (i + 1) ⟨rfl, rfl, rfl, rfl, rfl, rfl, rfl, rfl, rfl, rfl, trivial⟩ ⟨by omega, rfl⟩ (by omega)
  obtain rfl : i = 16 := by omega
  have hdl := deep_len 16
  refine Wl.call (Add_spec (ca := 0) (tm := 0) (kd := 9) (pa := deepL 16) (ar := 0) h14 ⟨by omega, by omega, by omega, by omega, by omega, by omega⟩ (by omega)) rfl ?_
  rintro _ w15 ⟨rfl, h15, c15⟩
  rw [add96d] at h15 ⊢
  have z14 := n14.size
  have n15 : New w w15 := Chg.trans n14 c15 fun k hk e => by omega
  replace h15 := h15.mono (Pb' := fun k => w.heap.size ≤ k) fun k _ e => by rcases e with e | e <;> omega
  (repeat' (first | refine Wl.moveE (by conv => { lhs; whnf }) ?_ | refine Wl.assignE (by conv => { lhs; whnf }) ?_ | refine Wl.nil ?_ | refine Wl.extract rfl rfl ?_ | refine Qseq.normal ?_ | refine Wc.seq ?_ | refine Wc.region ?_))
  refine Wl.strFrom rfl rfl (by omega) (by omega) ?_
  skip
  refine Wl.call (Add_spec (ca := 0) (tm := 0) (kd := 9) (pa := (deepL 16).drop 2) (ar := 0) h15 ⟨by omega, by omega, by omega, by omega, by omega, by omega⟩ (by simp; omega)) rfl ?_
  rintro _ w16 ⟨rfl, _, c16⟩
  rw [add96g]
  have z15 := n15.size
  have n16 : New w w16 := Chg.trans n15 c16 fun k hk e => by omega
  (repeat' (first | refine Wl.moveE (by conv => { lhs; whnf }) ?_ | refine Wl.assignE (by conv => { lhs; whnf }) ?_ | refine Wl.nil ?_ | refine Wl.extract rfl rfl ?_ | refine Qseq.normal ?_ | refine Wc.seq ?_ | refine Wc.region ?_))
  refine Wl.call (Play_spec (Pb := No) (l := []) RdS.nil (by decide) fun e he => by simp at he) rfl ?_
  rintro _ w17 ⟨_, hp, n17⟩
  obtain ⟨v, R, hs, rfl, o17⟩ := hp [] rfl
  replace n17 := n16.trans n17
  obtain rfl : R = [] := hs.1.eq_nil
  obtain ⟨a17, c17, rfl, _, _⟩ := o17.form
  rw [List.length_nil]
  (repeat' (first | refine Wl.moveE (by conv => { lhs; whnf }) ?_ | refine Wl.assignE (by conv => { lhs; whnf }) ?_ | refine Wl.nil ?_ | refine Wl.extract rfl rfl ?_ | refine Wl.guardY rfl rfl ?_ | refine Wl.pickTE rfl (by conv => { lhs; whnf }) ?_ | refine Wl.lenS rfl ?_ | refine Qseq.normal ?_ | refine Wc.seq ?_ | refine Wc.region ?_ | (refine Wl.eql rfl rfl (fun _ => ?_) (fun _ => ?_) <;> (first | (exfalso; omega) | (exfalso; contradiction) | skip))))
  refine Wl.call (awake_spec (ht.new n17)) rfl ?_
  rintro _ w18 ⟨rfl, n18⟩
  (repeat' (first | refine Wl.assignE (by conv => { lhs; whnf }) ?_ | refine Wl.nil ?_ | refine Wl.pickTE rfl (by conv => { lhs; whnf }) ?_ | refine Qseq.normal ?_ | refine Wc.ret ?_))
  exact Qfn.ret1 rfl rfl ⟨_, rfl, rfl, n17.trans n18⟩
end Go.Proofs.YtjaendlcijmifaaGreatDoor

namespace Go.Proofs.YtjaendlcijmifaaGreatDoor
open Go Wk

theorem laidVar_of {P : Program} {w : World} {n : String} {d : DataW Unit} : ∀ {l : List (String × DataW Unit)} {ps : List MemPlace}, DataW.LaidVars P w l ps → (n, d) ∈ l →
    ∃ g t cs fuel p, P.globalNamed n = some g ∧ (P.globals[g]?).map (·.type) = some t ∧ w.var? P n = some cs ∧ DataW.trod (fun _ => ()) P w 0 (fun _ => true) false fuel t cs.toList = some (d, p)
  | [], _, _, h => by cases h
  | (m, e) :: r, ps, hl, h => by
    obtain ⟨g, t, cs, fuel, p, q, h1, h2, h3, h4, h5, _⟩ := hl
    rcases List.mem_cons.1 h with h | h
    · cases h
      exact ⟨g, t, cs, fuel, p, h1, h2, h3, h4⟩
    · exact laidVar_of h5 h
def deB64 : List Int := [0, 1, 56, 2, 57, 49, 28, 3, 61, 58, 42, 50, 38, 29, 17, 4, 62, 47, 59, 36, 45, 43, 51, 22, 53, 39, 33, 30, 24, 18, 12, 5, 63, 55, 48, 27, 60, 41, 37, 16, 46, 35, 44, 21, 52, 32, 23, 11, 54, 26, 40, 15, 34, 20, 31, 10, 25, 14, 19, 9, 13, 8, 7, 6]
theorem tb_of {W : World} {l : List (String × DataW Unit)} (h : laidMet Tryz.prog l W) (hm : ("internal/strconv.uint64pow10", Rows.laid_internal_strconv_uint64pow10) ∈ l) : Tb W := by
  obtain ⟨ps, hl, _⟩ := h
  obtain ⟨g, t, cs, fuel, p, h1, h2, h3, h4⟩ := laidVar_of hl hm
  obtain rfl : 0 = g := Option.some.inj ((show Tryz.prog.globalNamed "internal/strconv.uint64pow10" = some 0 by kernel_rfl).symm.trans h1)
  obtain rfl : 148 = t := Option.some.inj ((show (Tryz.prog.globals[0]?).map (·.type) = some 148 by kernel_rfl).symm.trans h2)
  have hc := Lib.cells_of_tab (zs := Lib.pow10Tab) Tryz.underlying148 Tryz.underlying24 (by kernel_rfl) (by kernel_rfl) h4
  unfold Tb Lib.TabIs
  rw [h3]
  exact congrArg some (Array.ext' hc)
theorem met_of {P : Program} {l : List (String × DataW Unit)} {W : World} (h0 : (l.filter fun x => x.2.handleName?.isSome) = []) (h : laidMetH P l W) : laidMet P l W := by
  unfold laidMetH at h
  rw [h0] at h; exact h
end Go.Proofs.YtjaendlcijmifaaGreatDoor

namespace Go.Proofs.YtjaendlcijmifaaGreatDoor
open Go Wk

theorem bulk_one {H : Type} (d : DataW H) : 1 ≤ Rows.uptoBulk d := by
  cases d with
  | lit l => cases l <;> simp [Rows.uptoBulk]
  | _ => simp [Rows.uptoBulk]
theorem bulk_len {H : Type} (l : List (DataW H)) : l.length ≤ Rows.uptoBulkAll l := by
  induction l with
  | nil => simp [Rows.uptoBulkAll]
  | cons x r ih => have := bulk_one x; simp only [Rows.uptoBulkAll, List.length_cons]; omega
theorem bulk_sl {α : Type} {D : Dat α} {H : Type} {xs : List α} {d : DataW H} (h : datSl D H xs d) : xs.length ≤ Rows.uptoBulk d := by
  rcases h with ⟨rfl, rfl⟩ | ⟨es, sp, rfl, hl, _⟩
  · simp
  · have := bulk_len es
    simp only [Rows.uptoBulk]
    omega
/-- A measure of the elements, added up. -/
theorem bulk_sum {α : Type} {D : Dat α} {H : Type} (μ : α → Nat) (hμ : ∀ x d, D H x d → μ x ≤ Rows.uptoBulk d) : ∀ (xs : List α) (es : List (DataW H)), es.length = xs.length → (∀ (i : Nat) (x : α), xs[i]? = some x → ∃ y, es[i]? = some y ∧ D H x y) → (xs.map μ).sum ≤ Rows.uptoBulkAll es
  | [], es, _, _ => by simp
  | x :: xs, [], h, _ => by simp at h
  | x :: xs, e :: es, h, hd => by
    obtain ⟨y, hy, hD⟩ := hd 0 x rfl
    simp at hy
    subst hy
    have ih := bulk_sum μ hμ xs es (by simpa using h) (fun i x hx => by
      obtain ⟨y, hy, hD⟩ := hd (i + 1) x (by simpa using hx)
      exact ⟨y, by simpa using hy, hD⟩)
    have := hμ x e hD
    simp only [List.map_cons, List.sum_cons, Rows.uptoBulkAll]
    omega
theorem bulk_slsum {α : Type} {D : Dat α} {H : Type} {xs : List α} {d : DataW H} (μ : α → Nat) (hμ : ∀ x d, D H x d → μ x ≤ Rows.uptoBulk d) (h : datSl D H xs d) : (xs.map μ).sum ≤ Rows.uptoBulk d := by
  rcases h with ⟨rfl, rfl⟩ | ⟨es, sp, rfl, hl, hd⟩
  · simp
  · have := bulk_sum μ hμ xs es hl hd
    simp only [Rows.uptoBulk]
    omega
theorem bulk_str {H : Type} (l : List UInt8) (d : DataW H) (h : datStr H l d) : l.length + 1 ≤ Rows.uptoBulk d := by
  obtain ⟨rfl, _⟩ := h
  simp [Rows.uptoBulk]
theorem dat_mem {α : Type} {D : Dat α} {H : Type} {xs : List α} {d : DataW H} (h : datSl D H xs d) {x : α} (hx : x ∈ xs) : ∃ y, D H x y := by
  obtain ⟨i, hi⟩ := List.mem_iff_getElem?.1 hx
  rcases h with ⟨rfl, rfl⟩ | ⟨es, sp, rfl, hl, hd⟩
  · simp at hi
  · obtain ⟨y, _, hD⟩ := hd i x hi
    exact ⟨y, hD⟩
end Go.Proofs.YtjaendlcijmifaaGreatDoor

namespace Go.Proofs.YtjaendlcijmifaaGreatDoor
open Go Wk Go.ChangeShapes

theorem cInt : Tryz.prog.cellsOf 3 = 1 := by kernel_rfl
theorem cStr : Tryz.prog.cellsOf 9 = 1 := by kernel_rfl
theorem cU64 : Tryz.prog.cellsOf 24 = 1 := by kernel_rfl
theorem cI64 : Tryz.prog.cellsOf 2 = 1 := by kernel_rfl
theorem cU8 : Tryz.prog.cellsOf 5 = 1 := by kernel_rfl
theorem cEv : Tryz.prog.cellsOf 26 = 6 := by kernel_rfl
theorem len6 {α : Type} {l : List α} (h : l.length = 6) : ∃ a b c d e f, l = [a, b, c, d, e, f] := by
  match l, h with
  | [a, b, c, d, e, f], _ => exact ⟨a, b, c, d, e, f, rfl⟩
def datEv : Dat Ev := fun H x d => ∃ d0 d1 d2 d3 d4 d5, d = .agg [d0, d1, d2, d3, d4, d5] ∧ datStr H x.pa d4 ∧ EvW x
theorem u64_of {x : Int} (h : (Lit.int .u64 x).wf = true) : ∃ n : Nat, x = n ∧ n < 18446744073709551616 := by
  have h' : 0 ≤ x ∧ x ≤ 18446744073709551615 := by simpa [Lit.wf, IntKind.min, IntKind.max, IntKind.signed, IntKind.bits] using h
  exact ⟨x.toNat, by omega, by omega⟩
theorem u8_of' {x : Int} (h : (Lit.int .u8 x).wf = true) : ∃ n : Nat, x = n ∧ n < 256 := by
  have h' : 0 ≤ x ∧ x ≤ 255 := by simpa [Lit.wf, IntKind.min, IntKind.max, IntKind.signed, IntKind.bits] using h
  exact ⟨x.toNat, by omega, by omega⟩
theorem i64_of {x : Int} (h : (Lit.int .i64 x).wf = true) : -9223372036854775808 ≤ x ∧ x ≤ 9223372036854775807 := by
  simpa [Lit.wf, IntKind.min, IntKind.max, IntKind.signed, IntKind.bits] using h
theorem opens_ev : Opens Tryz.prog 26 rEv datEv := by
  intro H enc w fuel cs d ps h
  obtain ⟨xs, n, rfl, hx, hl, hlen, hf⟩ := DataW.trod_struct Tryz.underlying26 h
  rw [cEv] at hl
  obtain ⟨c0, c1, c2, c3, c4, c5, rfl⟩ := len6 hl
  obtain ⟨y0, y1, y2, y3, y4, y5, rfl⟩ := len6 (show xs.length = 6 from hlen)
  have e0 : DataW.trod enc Tryz.prog w 0 (fun _ => true) true n 24 (([c0, c1, c2, c3, c4, c5].drop 0).take (Tryz.prog.cellsOf 24)) = some y0 := hf 0 _ rfl
  have e1 : DataW.trod enc Tryz.prog w 0 (fun _ => true) true n 24 (([c0, c1, c2, c3, c4, c5].drop 1).take (Tryz.prog.cellsOf 24)) = some y1 := hf 1 _ rfl
  have e2 : DataW.trod enc Tryz.prog w 0 (fun _ => true) true n 2 (([c0, c1, c2, c3, c4, c5].drop 2).take (Tryz.prog.cellsOf 2)) = some y2 := hf 2 _ rfl
  have e3 : DataW.trod enc Tryz.prog w 0 (fun _ => true) true n 5 (([c0, c1, c2, c3, c4, c5].drop 3).take (Tryz.prog.cellsOf 5)) = some y3 := hf 3 _ rfl
  have e4 : DataW.trod enc Tryz.prog w 0 (fun _ => true) true n 9 (([c0, c1, c2, c3, c4, c5].drop 4).take (Tryz.prog.cellsOf 9)) = some y4 := hf 4 _ rfl
  have e5 : DataW.trod enc Tryz.prog w 0 (fun _ => true) true n 2 (([c0, c1, c2, c3, c4, c5].drop 5).take (Tryz.prog.cellsOf 2)) = some y5 := hf 5 _ rfl
  rw [cU64] at e0 e1
  rw [cI64] at e2 e5
  rw [cU8] at e3
  rw [cStr] at e4
  cases hx
  obtain ⟨s0, r0, q0⟩ := opens_int Tryz.underlying24 H enc w n _ _ _ e0
  obtain ⟨s1, r1, q1⟩ := opens_int Tryz.underlying24 H enc w n _ _ _ e1
  obtain ⟨s2, r2, q2⟩ := opens_int Tryz.underlying2 H enc w n _ _ _ e2
  obtain ⟨s3, r3, q3⟩ := opens_int Tryz.underlying5 H enc w n _ _ _ e3
  obtain ⟨s4, r4, q4⟩ := opens_str Tryz.underlying9 H enc w n _ _ _ e4
  obtain ⟨s5, r5, q5⟩ := opens_int Tryz.underlying2 H enc w n _ _ _ e5
  have r0' : [c0] = [Value.int .u64 s0] := r0 (fun _ => True) (fun _ _ => trivial)
  have r1' : [c1] = [Value.int .u64 s1] := r1 (fun _ => True) (fun _ _ => trivial)
  have r2' : [c2] = [Value.int .i64 s2] := r2 (fun _ => True) (fun _ _ => trivial)
  have r3' : [c3] = [Value.int .u8 s3] := r3 (fun _ => True) (fun _ _ => trivial)
  have r4' : [c4] = [vs s4] := r4 (fun _ => True) (fun _ _ => trivial)
  have r5' : [c5] = [Value.int .i64 s5] := r5 (fun _ => True) (fun _ _ => trivial)
  cases r0'
  cases r1'
  cases r2'
  cases r3'
  cases r4'
  cases r5'
  obtain ⟨n0, rfl, h0⟩ := u64_of q0.2
  obtain ⟨n1, rfl, h1⟩ := u64_of q1.2
  obtain ⟨n3, rfl, h3⟩ := u8_of' q3.2
  have h2 := i64_of q2.2
  have h5 := i64_of q5.2
  exact ⟨⟨n0, n1, s2, n3, s4, s5⟩, fun _ _ => rfl, _, _, _, _, _, _, rfl, q4, h0, h1, h2.1, h2.2, h3, h5.1, h5.2⟩
theorem opens_evs : Opens Tryz.prog 22 (Wk.rSl rEv 6) (datSl datEv) := opens_slice Tryz.underlying22 cEv (by decide) opens_ev
theorem bulk_ev {H : Type} (x : Ev) (d : DataW H) (h : datEv H x d) : x.pa.length ≤ Rows.uptoBulk d := by
  obtain ⟨d0, d1, d2, d3, d4, d5, rfl, h4, _⟩ := h
  have b4 := bulk_str x.pa d4 h4
  simp only [Rows.uptoBulk, Rows.uptoBulkAll]
  omega
theorem sum_ge {l : List Nat} {x : Nat} (h : x ∈ l) : x ≤ l.sum := by
  induction l with
  | nil => simp at h
  | cons y r ih =>
    simp only [List.sum_cons]
    rcases List.mem_cons.1 h with rfl | h
    · omega
    · have := ih h; omega
theorem bulk_evs {H : Type} {xs : List Ev} {d : DataW H} (h : datSl datEv H xs d) : ∀ e ∈ xs, EvW e ∧ e.pa.length ≤ Rows.uptoBulk d := fun e he => by
  have h1 := bulk_slsum (fun x : Ev => x.pa.length) (fun x d h => bulk_ev x d h) h
  have h2 := sum_ge (List.mem_map.2 ⟨e, he, rfl⟩ : (fun x : Ev => x.pa.length) e ∈ xs.map fun x : Ev => x.pa.length)
  obtain ⟨y, hy⟩ := dat_mem h he
  obtain ⟨_, _, _, _, _, _, _, _, hw⟩ := hy
  exact ⟨hw, Nat.le_trans h2 h1⟩
end Go.Proofs.YtjaendlcijmifaaGreatDoor

namespace Go.Proofs.YtjaendlcijmifaaGreatDoor
open Go Wk

theorem iface_of_trod {H : Type} {enc : TypeId × Value → H} {P : Program} {w : World} {base : Nat} {sp : Nat → Bool} {held : Bool} {fuel : Nat} {t : TypeId} {ms : Array (String × TypeId)} {cs : List Value} {nm : String} {d : DataW H} {p : List MemPlace}
    (ht : P.underlying t = some (.interface ms)) (h : DataW.trod enc P w base sp held fuel t cs = some (.iface nm d, p)) : ∃ u v, cs = [.iface u v] := by
  cases fuel with
  | zero => simp [DataW.trod] at h
  | succ fuel =>
    simp only [DataW.trod, ht] at h
    split at h <;> first | cases h | exact ⟨_, _, rfl⟩ | simp_all
theorem cell_lt {w : World} {g i : Nat} {v : Value} (h : w.cell? ⟨g, i, none⟩ = some v) : g < w.heap.size := by
  rcases Nat.lt_or_ge g w.heap.size with h1 | h1
  · exact h1
  · simp only [World.cell?] at h
    rw [Array.getElem?_eq_none h1] at h; cases h
theorem errV_of {W : World} {l : List (String × DataW Unit)} (h : laidMet Tryz.prog l W) (hm : ("strconv.ErrRange", Rows.laid_strconv_ErrRange) ∈ l) (hm' : ("strconv.ErrSyntax", Rows.laid_strconv_ErrSyntax) ∈ l) : ErrV W := by
  obtain ⟨ps, hl, _⟩ := h
  rintro g (rfl | rfl)
  · obtain ⟨g, t, cs, fuel, p, h1, h2, h3, h4⟩ := laidVar_of hl hm'
    obtain rfl : 1 = g := Option.some.inj ((show Tryz.prog.globalNamed "strconv.ErrSyntax" = some 1 by kernel_rfl).symm.trans h1)
    obtain rfl : 100 = t := Option.some.inj ((show (Tryz.prog.globals[1]?).map (·.type) = some 100 by kernel_rfl).symm.trans h2)
    obtain ⟨u, v, hc⟩ := iface_of_trod Tryz.underlying100 h4
    have h5 := World.var?_cell h1 h3 0
    rw [← Array.getElem?_toList, hc] at h5
    exact ⟨cell_lt h5, u, v, h5⟩
  · obtain ⟨g, t, cs, fuel, p, h1, h2, h3, h4⟩ := laidVar_of hl hm
    obtain rfl : 2 = g := Option.some.inj ((show Tryz.prog.globalNamed "strconv.ErrRange" = some 2 by kernel_rfl).symm.trans h1)
    obtain rfl : 100 = t := Option.some.inj ((show (Tryz.prog.globals[2]?).map (·.type) = some 100 by kernel_rfl).symm.trans h2)
    obtain ⟨u, v, hc⟩ := iface_of_trod Tryz.underlying100 h4
    have h5 := World.var?_cell h1 h3 0
    rw [← Array.getElem?_toList, hc] at h5
    exact ⟨cell_lt h5, u, v, h5⟩
theorem len_le_sum {l : List (List UInt8)} {s : List UInt8} (h : s ∈ l) : s.length + 1 ≤ (l.map fun l : List UInt8 => l.length + 1).sum := by
  induction l with
  | nil => cases h
  | cons x l ih =>
    rw [List.map_cons, List.sum_cons]
    rcases List.mem_cons.1 h with rfl | h
    · omega
    · have := ih h; omega
end Go.Proofs.YtjaendlcijmifaaGreatDoor
