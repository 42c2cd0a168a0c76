/-
  Texts of this claim, one behind the other: Jo, Ju, Jv, Jw, Jb, Jd, Jl, Bulk.
-/
import Derived.Test.YthppadlcejpgbaaGreatDoorZc
import Derived.Test.YthppadlcejpgbaaGreatDoorRows
import Derived.Lib.LaidTab
namespace Go.Proofs.YthppadlcejpgbaaGreatDoor
open Go Wk
open Go.RowKit (Below)
attribute [local irreducible] Go.Calls

theorem CutPrefix_spec {w : World} (s p : List UInt8) : Calls Tryz.prog 59 #[vs s, vs p] w (Ret fun r w' => ((∃ t, s = p ++ t ∧ r = .tuple #[vs t, .bool true]) ∨ ((∀ t, s ≠ p ++ t) ∧ r = .tuple #[vs s, .bool false])) ∧ w = w') := by
  refine (Tryz.strings_CutPrefix ⟨s.toArray⟩ ⟨p.toArray⟩ w).mono ?_
  rintro e w' ⟨rfl, rfl⟩
  refine ⟨_, rfl, ?_, rfl⟩
  show _ ∨ _
  have e1 : Lib.hasPrefix s p = p.isPrefixOf s := rfl
  cases h : p.isPrefixOf s with
  | true =>
    obtain ⟨t, rfl⟩ := List.isPrefixOf_iff_prefix.1 h
    refine .inl ⟨t, rfl, ?_⟩
    show Value.tuple #[.string ⟨(Lib.trimPrefix (p ++ t) p).toArray⟩, .bool (Lib.hasPrefix (p ++ t) p)] = _
    unfold Lib.trimPrefix
    rw [e1, h, if_pos rfl, List.drop_left]
  | false =>
    refine .inr ⟨fun t e => ?_, ?_⟩
    · have := List.isPrefixOf_iff_prefix.2 ⟨t, e.symm⟩
      rw [h] at this; cases this
    · show Value.tuple #[.string ⟨(Lib.trimPrefix s p).toArray⟩, .bool (Lib.hasPrefix s p)] = _
      unfold Lib.trimPrefix
      rw [e1, h, if_neg (by simp)]
theorem CutSuffixP_spec {w : World} (s p : List UInt8) (hl : s.length ≤ 100000000) : Calls Tryz.prog 44 #[vs s, vs p] w (Ret fun r w' => ((∃ t, s = t ++ p ∧ r = .tuple #[vs t, .bool true]) ∨ ((∀ t, s ≠ t ++ p) ∧ r = .tuple #[vs s, .bool false])) ∧ w = w') := by
  refine (Tryz.strings_CutSuffix ⟨s.toArray⟩ ⟨p.toArray⟩ w (by show s.toArray.size ≤ _; simp; omega)).mono ?_
  rintro e w' ⟨rfl, rfl⟩
  refine ⟨_, rfl, ?_, rfl⟩
  show _ ∨ _
  have e1 : Lib.hasSuffix s p = p.isSuffixOf s := rfl
  cases h : p.isSuffixOf s with
  | true =>
    obtain ⟨t, rfl⟩ := List.isSuffixOf_iff_suffix.1 h
    refine .inl ⟨t, rfl, ?_⟩
    show Value.tuple #[.string ⟨(Lib.trimSuffix (t ++ p) p).toArray⟩, .bool (Lib.hasSuffix (t ++ p) p)] = _
    unfold Lib.trimSuffix
    rw [e1, h, if_pos rfl, List.length_append, Nat.add_sub_cancel, List.take_left]
  | false =>
    refine .inr ⟨fun t e => ?_, ?_⟩
    · have := List.isSuffixOf_iff_suffix.2 ⟨t, e.symm⟩
      rw [h] at this; cases this
    · show Value.tuple #[.string ⟨(Lib.trimSuffix s p).toArray⟩, .bool (Lib.hasSuffix s p)] = _
      unfold Lib.trimSuffix
      rw [e1, h, if_neg (by simp)]
theorem HasPrefix1_spec {w : World} (s : List UInt8) (c : UInt8) : Calls Tryz.prog 35 #[vs s, vs [c]] w (Ret fun r w' => r = .bool (decide (s.head? = some c)) ∧ w = w') := by
  refine (Tryz.strings_HasPrefix ⟨s.toArray⟩ ⟨#[c]⟩ w).mono ?_
  rintro e w' ⟨rfl, rfl⟩
  refine ⟨_, rfl, ?_, rfl⟩
  show Value.bool (List.isPrefixOf [c] s) = _
  congr 1
  cases s with
  | nil => rfl
  | cons d s =>
    show ((c == d) && true) = _
    rw [Bool.and_true, List.head?_cons]
    by_cases h : c = d
    · subst h; rw [beq_self_eq_true, decide_eq_true rfl]
    · rw [beq_eq_false_iff_ne.2 h, decide_eq_false fun e => h (Option.some.inj e).symm]
theorem dropX_trim (w : List UInt8) : Lib.trimPrefix w [48, 120] = dropX w := by
  unfold Lib.trimPrefix Lib.hasPrefix
  cases h : List.isPrefixOf [48, 120] w with
  | true =>
    obtain ⟨t, rfl⟩ := List.isPrefixOf_iff_prefix.1 h
    rfl
  | false =>
    rw [if_neg (by simp)]
    unfold dropX
    split
    · simp [List.isPrefixOf] at h
    · rfl
theorem TrimPrefix_spec {w : World} (s : List UInt8) : Calls Tryz.prog 61 #[vs s, vs [48, 120]] w (Ret fun r w' => r = vs (dropX s) ∧ w = w') := by
  refine (Tryz.strings_TrimPrefix ⟨s.toArray⟩ ⟨#[48, 120]⟩ w).mono ?_
  rintro e w' ⟨rfl, rfl⟩
  refine ⟨_, rfl, ?_, rfl⟩
  show Value.string ⟨(Lib.trimPrefix s [48, 120]).toArray⟩ = _
  rw [dropX_trim]
theorem dropX_len (s : List UInt8) : (dropX s).length ≤ s.length := by rw [← dropX_trim]; exact Lib.trimPrefix_le s [48, 120]
/-- A value that may have been read, and whether. -/
def optV8 : Option (List UInt8) → Value
  | some l => .tuple #[vs l, .bool true]
  | none => .tuple #[vs [], .bool false]
theorem splitR_le (c : UInt8) : ∀ (l : List UInt8), ∀ t ∈ splitR c l, t.length ≤ l.length
  | [], t, h => by simp [splitR] at h; subst h; simp
  | b :: l, t, h => by
    have ih := splitR_le c l
    rw [splitR] at h
    split at h
    · rcases List.mem_cons.1 h with rfl | h
      · simp
      · have := ih t h; simp only [List.length_cons]; omega
    · revert h
      cases hq : splitR c l with
      | nil => exact absurd hq (splitR_ne c l)
      | cons x xs =>
        intro h
        rw [hq] at ih
        rcases List.mem_cons.1 h with rfl | h
        · have := ih x (by simp); simp only [List.length_cons]; omega
        · have := ih t (by simp [h]); simp only [List.length_cons]; omega
theorem wordsM_len {sz mx : Nat} : ∀ {ws : List (List UInt8)} {acc r : List UInt8}, wordsM sz mx ws acc = some r → r.length = acc.length + sz * ws.length
  | [], acc, r, h => by cases h; simp
  | w :: ws, acc, r, h => by
    unfold wordsM at h
    split at h
    · cases h
    · have := wordsM_len h
      rw [this, List.length_append, be_length, List.length_cons, Nat.mul_add]; omega
theorem vs_nil : (Value.string { data := #[] }) = vs [] := rfl
set_option maxHeartbeats 1000000 in
theorem listed_spec {w : World} {s : List UInt8} {b e : UInt8} {sz mx : Nat} (hE : ErrV w) (hsz : sz = 1 ∧ mx = 255 ∨ sz = 4 ∧ mx = 4294967295) (hl : s.length ≤ 100000000) :
    Calls Tryz.prog 37 #[vs s, vs [b], vs [e], vi sz] w (Ret fun r w' => r = optV8 (listedM b e sz mx s) ∧ New w w') := by
  have hbits : (8 * sz = 8 ∧ mx = 255) ∨ (8 * sz = 32 ∧ mx = 4294967295) := by omega
  have hsz4 : sz ≤ 4 := by omega
  refine calls_of_Wc Tryz.func37 rfl Tryz.ntmps37 rfl ?_
  (repeat' (first | refine Wl.moveE (by conv => { lhs; whnf }) ?_ | refine Wl.assignE (by conv => { lhs; whnf }) ?_ | refine Wl.nil ?_ | refine Qseq.normal ?_ | refine Wc.seq ?_ | refine Wc.region ?_))
  refine Wl.call (CutPrefix_spec s [b]) rfl ?_
  rintro _ _ ⟨h1, rfl⟩
  rcases h1 with ⟨r, rfl, rfl⟩ | ⟨hno, rfl⟩
  · have hlr : r.length ≤ 100000000 := by simp at hl; omega
    (repeat' (first | refine Wl.moveE (by conv => { lhs; whnf }) ?_ | refine Wl.assignE (by conv => { lhs; whnf }) ?_ | refine Wl.nil ?_ | refine Wl.extract rfl rfl ?_ | refine Qseq.normal ?_ | refine Wc.seq ?_ | refine Wc.region ?_))
    refine Wl.call (CutSuffixP_spec r [e] hlr) rfl ?_
    rintro _ _ ⟨h2, rfl⟩
    rcases h2 with ⟨q, rfl, rfl⟩ | ⟨hno, rfl⟩
    · have hlm : listedM b e sz mx ([b] ++ (q ++ [e])) = wordsM sz mx (splitR 32 q) [] := by
        unfold listedM
        simp only [List.singleton_append]
        rw [if_pos trivial, if_pos (by simp), List.dropLast_concat]
      rw [hlm]
      have hlq : q.length ≤ 100000000 := by simp at hlr; omega
      (repeat' (first | refine Wl.moveE (by conv => { lhs; whnf }) ?_ | refine Wl.assignE (by conv => { lhs; whnf }) ?_ | refine Wl.nil ?_ | refine Wl.extract rfl rfl ?_ | refine Wl.guardY rfl rfl ?_ | refine Wl.pickFE rfl (by conv => { lhs; whnf }) ?_ | refine Wl.notB rfl ?_ | refine Qseq.normal ?_ | refine Wc.seq ?_ | refine Wc.region ?_ | refine Wc.skip ?_ | refine Wc.condF rfl ?_))
      refine Wl.call (SplitC_spec 32 hlq) rfl ?_
      rintro v w1 ⟨ho, n1⟩
      have hr := ho.rd goodStr.mo
      have hws : ∀ t ∈ splitR 32 q, t.length ≤ 100000000 := fun t ht => Nat.le_trans (splitR_le 32 q t ht) hlq
      have hwl : (splitR 32 q).length ≤ 100000001 := by rw [splitR_length]; have := List.count_le_length (a := (32 : UInt8)) (l := q); omega
      generalize splitR 32 q = ws at hr hws hwl
      clear ho
      obtain ⟨a, cap, rfl, hcap, hmax⟩ := hr.form
      simp only [maxLen] at hmax
      have hr2 : RdS (one vs) 1 (fun b => b < w1.heap.size) w1 (.slice a ws.length cap) ws := by
        rcases hr with h | h | ⟨b, off, c2, cur, e, fr, hv, hb, hh, h⟩
        · exact .inl h
        · exact .inr (.inl h)
        · exact .inr (.inr ⟨b, off, c2, cur, e, fr, hv, heap_lt hh, hh, h⟩)
      clear hr
      (repeat' (first | refine Wl.moveE (by conv => { lhs; whnf }) ?_ | refine Wl.nil ?_ | refine Wl.lenS rfl ?_ | refine Qseq.normal ?_ | refine Wc.block ?_))
      refine Wc.loop (σ := Nat × Value × List UInt8) (fun x => [(3, vi sz), (13, x.2.1), (37, .slice a ws.length cap), (38, vi ws.length), (39, vi x.1)]) (fun x w' => x.1 ≤ ws.length ∧ x.2.2.length ≤ 4 * x.1 ∧ wordsM sz mx ws [] = wordsM sz mx (ws.drop x.1) x.2.2 ∧ OwnS (one by8) 5 1 (fun b => w1.heap.size ≤ b) (fun _ => False) w' x.2.1 x.2.2 ∧ Chg (fun b => w1.heap.size ≤ b) w1 w') (fun x => ws.length - x.1) (0, .slice none 0 0, []) ⟨rfl, rfl, rfl, rfl, rfl, trivial⟩ ⟨Nat.zero_le _, Nat.le_refl _, rfl, OwnS.nil, Chg.refl _ _⟩ ?_
      rintro ⟨i, bv, acc⟩ G w2 ⟨hi, hacc, hw, ho, n2⟩
      dsimp only at hi hacc hw ho
      simp only [upds]
      have s2 := n2.size
      (repeat' (first | refine Wl.moveE (by conv => { lhs; whnf }) ?_ | refine Wl.nil ?_ | refine Qseq.normal ?_ | refine Wc.seq ?_ | refine Wc.region ?_ | refine Wc.block ?_ | refine Wc.skip ?_ | refine Wc.exit ?_ | refine Qseq.exit ?_ | refine Qblk.hit ?_ | refine Qloop.exit ?_ | refine Wc.condT rfl ?_ | refine Wc.condF rfl ?_ | refine Wl.lss rfl rfl (fun _ => ?_) (fun _ => ?_)))
      · obtain ⟨x, hx⟩ := get_lt' ws (k := i) (by omega)
        have hxl := hws x (List.mem_of_getElem? hx)
        have hdr : ws.drop i = x :: ws.drop (i + 1) := by
          obtain ⟨h1, h2⟩ := List.getElem?_eq_some_iff.1 hx
          rw [List.drop_eq_getElem_cons h1, h2]
        rw [hdr] at hw
        rw [wordsM.eq_2] at hw
        have hr3 := hr2.keep (stable_one _) (n2.keep fun b hb h => by omega)
        refine Wl.idxLoadV hr3 rfl rfl (by omega) (by rw [Int.toNat_natCast]; exact hx) rfl rfl fun p => ?_
        (repeat' (first | refine Wl.moveE (by conv => { lhs; whnf }) ?_ | refine Wl.assignE (by conv => { lhs; whnf }) ?_ | refine Wl.nil ?_ | refine Qseq.normal ?_ | refine Wc.seq ?_ | refine Wc.region ?_))
        refine Wl.call (TrimPrefix_spec x) rfl ?_
        rintro _ _ ⟨rfl, rfl⟩
        (repeat' (first | refine Wl.moveE (by conv => { lhs; whnf }) ?_ | refine Wl.mul rfl rfl (by omega) (by omega) ?_))
        rw [show (8 : Int) * (sz : Int) = ((8 * sz : Nat) : Int) by omega]
        have hE2 : ErrV w2 := hE.new (Chg.trans n1 n2 fun k hk h => by have := n1.size; omega)
        refine Wl.call (Parse_spec hE2 hbits (show (dropX x).length ≤ _ by have := dropX_len x; omega)) rfl ?_
        rintro pr w3 ⟨hp, n3⟩
        cases hpu : puR mx (dropX x) with
        | none =>
          rw [hpu] at hp hw
          obtain ⟨m, t, v, rfl⟩ := hp
          (repeat' (first | refine Wl.moveE (by conv => { lhs; whnf }) ?_ | refine Wl.assignE (by conv => { lhs; whnf }) ?_ | refine Wl.nil ?_ | refine Wl.extract rfl rfl ?_ | refine Qseq.normal ?_ | refine Wc.seq ?_ | refine Wc.region ?_))
          refine Wl.ineHeld rfl ?_
          (repeat' (first | refine Wl.assignE (by conv => { lhs; whnf }) ?_ | refine Wl.nil ?_ | refine Qseq.normal ?_ | refine Wc.seq ?_ | refine Wc.region ?_ | refine Wc.ret ?_ | refine Qseq.ret ?_ | refine Qblk.ret ?_ | refine Qloop.ret ?_ | refine Wc.condT rfl ?_))
          refine Qfn.ret2 rfl rfl rfl ⟨_, rfl, ?_, ?_⟩
          · rw [hw]; rfl
          · exact Chg.trans n1 (Chg.trans n2 n3 fun _ _ h => h.elim) fun k hk h => by have := n1.size; omega
        | some N =>
          rw [hpu] at hp hw
          dsimp only at hw
          replace hp : pr = .tuple #[.int .u64 N, Value.nilIface] := hp
          subst hp
          (repeat' (first | refine Wl.moveE (by conv => { lhs; whnf }) ?_ | refine Wl.assignE (by conv => { lhs; whnf }) ?_ | refine Wl.nil ?_ | refine Wl.extract rfl rfl ?_ | refine Qseq.normal ?_ | refine Wc.seq ?_ | refine Wc.region ?_))
          refine Wl.ineNil rfl ?_
          (repeat' (first | refine Wl.moveE (by conv => { lhs; whnf }) ?_ | refine Wl.nil ?_ | refine Qseq.normal ?_ | refine Wc.region ?_ | refine Wc.skip ?_ | refine Wc.condF rfl ?_))
          refine Wl.call (laid_spec (ho.keepP n3.keep) (show sz ≤ 8 by omega) (by omega)) rfl ?_
          rintro bv2 w4 ⟨ho4, c4⟩
          have s3 := n3.size
          (repeat' (first | refine Wl.moveE (by conv => { lhs; whnf }) ?_ | refine Wl.assignE (by conv => { lhs; whnf }) ?_ | refine Wl.nil ?_ | refine Qseq.normal ?_ | refine Wc.region ?_ | refine Qblk.normal ?_ | refine Wl.add rfl rfl (by omega) (by omega) ?_))
          refine Qloop.normal (i + 1, bv2, acc ++ be sz (N : Int)) ⟨rfl, rfl, rfl, rfl, rfl, trivial⟩ ⟨by dsimp only; omega, by dsimp only; rw [List.length_append, be_length]; omega, hw, ho4.mono good8.mo (fun b _ hb => by rcases hb with hb | hb <;> omega) (fun _ _ h => h), ?_⟩ (by dsimp only; omega)
          exact Chg.trans n2 (Chg.trans n3.any c4 fun _ _ h => h) fun _ _ h => h
      · have hi2 : i = ws.length := by omega
        subst hi2
        rw [List.drop_length] at hw
        refine Wl.bytesStr (ho.rd (mono_one _)) rfl ?_
        (repeat' (first | refine Wl.assignE (by conv => { lhs; whnf }) ?_ | refine Wl.nil ?_ | refine Qseq.normal ?_ | refine Wc.ret ?_))
        refine Qfn.ret2 rfl rfl rfl ⟨_, rfl, ?_, ?_⟩
        · rw [hw]; rfl
        · exact Chg.trans n1 n2 fun k hk h => by have := n1.size; omega
    · have hlm : listedM b e sz mx ([b] ++ r) = none := by
        unfold listedM
        simp only [List.singleton_append]
        rw [if_pos trivial, if_neg]
        intro h
        obtain ⟨hne, h⟩ := List.getLast?_eq_some_iff.1 h
        exact hno _ h
      rw [hlm]
      (repeat' (first | refine Wl.moveE (by conv => { lhs; whnf }) ?_ | refine Wl.assignE (by conv => { lhs; whnf }) ?_ | refine Wl.nil ?_ | refine Wl.extract rfl rfl ?_ | refine Wl.guardY rfl rfl ?_ | refine Wl.pickFE rfl (by conv => { lhs; whnf }) ?_ | refine Wl.notB rfl ?_ | refine Qseq.normal ?_ | refine Wc.seq ?_ | refine Wc.region ?_ | refine Wc.ret ?_ | refine Qseq.ret ?_ | refine Wc.condT rfl ?_))
      exact Qfn.ret2 rfl rfl rfl ⟨_, rfl, rfl, Chg.refl _ _⟩
  · have hlm : listedM b e sz mx s = none := by
      unfold listedM
      cases s with
      | nil => rfl
      | cons c r =>
        dsimp only
        rw [if_neg fun e => hno r (by rw [e]; rfl)]
    rw [hlm]
    (repeat' (first | refine Wl.moveE (by conv => { lhs; whnf }) ?_ | refine Wl.assignE (by conv => { lhs; whnf }) ?_ | refine Wl.nil ?_ | refine Wl.extract rfl rfl ?_ | refine Qseq.normal ?_ | refine Wc.seq ?_ | refine Wc.region ?_))
    refine Wl.call (CutSuffixP_spec s [e] hl) rfl ?_
    rintro _ _ ⟨h2, rfl⟩
    rcases h2 with ⟨q, rfl, rfl⟩ | ⟨_, rfl⟩
    · (repeat' (first | refine Wl.moveE (by conv => { lhs; whnf }) ?_ | refine Wl.assignE (by conv => { lhs; whnf }) ?_ | refine Wl.nil ?_ | refine Wl.extract rfl rfl ?_ | refine Wl.guardN rfl rfl ?_ | refine Wl.pickTE rfl (by conv => { lhs; whnf }) ?_ | refine Wl.notB rfl ?_ | refine Qseq.normal ?_ | refine Wc.seq ?_ | refine Wc.region ?_ | refine Wc.ret ?_ | refine Qseq.ret ?_ | refine Wc.condT rfl ?_))
      exact Qfn.ret2 rfl rfl rfl ⟨_, rfl, rfl, Chg.refl _ _⟩
    · (repeat' (first | refine Wl.moveE (by conv => { lhs; whnf }) ?_ | refine Wl.assignE (by conv => { lhs; whnf }) ?_ | refine Wl.nil ?_ | refine Wl.extract rfl rfl ?_ | refine Wl.guardN rfl rfl ?_ | refine Wl.pickTE rfl (by conv => { lhs; whnf }) ?_ | refine Wl.notB rfl ?_ | refine Qseq.normal ?_ | refine Wc.seq ?_ | refine Wc.region ?_ | refine Wc.ret ?_ | refine Qseq.ret ?_ | refine Wc.condT rfl ?_))
      exact Qfn.ret2 rfl rfl rfl ⟨_, rfl, rfl, Chg.refl _ _⟩
end Go.Proofs.YthppadlcejpgbaaGreatDoor

namespace Go.Proofs.YthppadlcejpgbaaGreatDoor
open Go Wk
open Go.RowKit (Below)
attribute [local irreducible] Go.Calls

/-- Texts in quotes, read from here on. -/
def tq (s acc : List UInt8) : Option (List UInt8) := match s with
  | 34 :: r => inT r acc
  | _ => none
theorem tq_no {s acc : List UInt8} (h : ∀ t, s ≠ [34] ++ t) : tq s acc = none := by
  unfold tq
  split
  · exact absurd rfl (h _)
  · rfl
theorem inT_nil (acc : List UInt8) : inT [] acc = none := by rw [inT]
theorem inT_end (acc : List UInt8) : inT [34] acc = some (acc ++ [0]) := by rw [inT]
theorem inT_go (r acc : List UInt8) : inT (34 :: 44 :: 32 :: r) acc = tq r (acc ++ [0]) := by
  unfold tq
  split
  · rw [inT]
  · rename_i h
    rw [inT.eq_def]
    split <;> simp_all
theorem inT_no {r acc : List UInt8} (hne : r ≠ []) (h : ∀ t, r ≠ [44, 32] ++ t) : inT (34 :: r) acc = none := by
  rw [inT.eq_def]
  split <;> simp_all
theorem inT_esc0 (acc : List UInt8) : inT [92] acc = none := by rw [inT]
theorem strDrop (l : List UInt8) : l.drop 1 = l.tail := by cases l <;> rfl
set_option maxHeartbeats 1000000 in
theorem texts_spec' {w : World} {s : List UInt8} (hl : s.length ≤ 100000000) :
    Calls Tryz.prog 36 #[vs s] w (Ret fun r w' => r = optV8 (tq s []) ∧ New w w') := by
  refine calls_of_Wc Tryz.func36 rfl Tryz.ntmps36 rfl ?_
  (repeat' (first | refine Wl.assignE (by conv => { lhs; whnf }) ?_ | refine Wl.nil ?_ | refine Qseq.normal ?_ | refine Wc.seq ?_ | refine Wc.region ?_ | refine Wc.block ?_))
  refine Wc.loop (σ := List UInt8 × Value × List UInt8) (fun x => [(0, vs x.1), (4, x.2.1)]) (fun x w' => x.1.length + x.2.2.length ≤ s.length ∧ tq s [] = tq x.1 x.2.2 ∧ OwnS (one by8) 5 1 (fun b => w.heap.size ≤ b) (fun _ => False) w' x.2.1 x.2.2 ∧ New w w') (fun x => x.1.length) (s, .slice none 0 0, []) ⟨rfl, rfl, trivial⟩ ⟨by simp, rfl, OwnS.nil, Chg.refl _ _⟩ ?_
  rintro ⟨u, bv, acc⟩ G w1 ⟨hlen, hq, ho, n1⟩
  dsimp only at hlen hq ho
  simp only [upds]
  (repeat' (first | refine Wl.moveE (by conv => { lhs; whnf }) ?_ | refine Wc.seq ?_ | refine Wc.region ?_ | refine Wc.block ?_))
  refine Wl.call (CutPrefix_spec u [34]) rfl ?_
  rintro _ _ ⟨h1, rfl⟩
  rcases h1 with ⟨r, rfl, rfl⟩ | ⟨hno, rfl⟩
  rotate_left
  · (repeat' (first | refine Wl.moveE (by conv => { lhs; whnf }) ?_ | refine Wl.assignE (by conv => { lhs; whnf }) ?_ | refine Wl.nil ?_ | refine Wl.extract rfl rfl ?_ | refine Wl.notB rfl ?_ | refine Qseq.normal ?_ | refine Wc.seq ?_ | refine Wc.region ?_ | refine Wc.ret ?_ | refine Qseq.ret ?_ | refine Qblk.ret ?_ | refine Qloop.ret ?_ | refine Wc.condT rfl ?_))
    rw [hq, tq_no hno]
    exact Qfn.ret2 rfl rfl rfl ⟨_, rfl, rfl, n1⟩
  · replace hq : tq s [] = inT r acc := hq
    simp only [List.length_append, List.length_singleton] at hlen
    (repeat' (first | refine Wl.moveE (by conv => { lhs; whnf }) ?_ | refine Wl.assignE (by conv => { lhs; whnf }) ?_ | refine Wl.nil ?_ | refine Wl.extract rfl rfl ?_ | refine Wl.notB rfl ?_ | refine Qseq.normal ?_ | refine Wc.seq ?_ | refine Wc.region ?_ | refine Wc.block ?_ | refine Wc.skip ?_ | refine Wc.condF rfl ?_))
    refine Wc.loop (σ := List UInt8 × Value × List UInt8) (fun x => [(0, vs x.1), (4, x.2.1)]) (fun x w' => (x.1.length ≤ r.length ∧ x.1.length + x.2.2.length ≤ r.length + acc.length) ∧ inT r acc = inT x.1 x.2.2 ∧ OwnS (one by8) 5 1 (fun b => w.heap.size ≤ b) (fun _ => False) w' x.2.1 x.2.2 ∧ New w w') (fun x => x.1.length) (r, bv, acc) ⟨rfl, rfl, trivial⟩ ⟨⟨Nat.le_refl _, Nat.le_refl _⟩, rfl, ho, n1⟩ ?_
    rintro ⟨u, bv, ac⟩ G w2 ⟨hlen2, hq2, ho2, n2⟩
    dsimp only at hlen2 hq2 ho2
    clear ho n1
    simp only [upds]
    cases u with
    | nil =>
      rw [inT_nil] at hq2
      (repeat' (first | refine Wl.moveE (by conv => { lhs; whnf }) ?_ | refine Wl.nil ?_ | refine Wl.guardN rfl rfl ?_ | refine Wl.pickFE rfl (by conv => { lhs; whnf }) ?_ | refine Qseq.normal ?_ | refine Wc.seq ?_ | refine Wc.region ?_ | refine Wc.exit ?_ | refine Qseq.exit ?_ | refine Qblk.hit ?_ | refine Qloop.exit ?_ | refine Wc.condF rfl ?_ | (refine Wl.sneq rfl rfl (fun _ => ?_) (fun _ => ?_) <;> (first | (exfalso; contradiction) | skip))))
      refine Wl.call (CutPrefix_spec [] [34]) rfl ?_
      rintro _ _ ⟨h1, rfl⟩
      rcases h1 with ⟨t, ht, _⟩ | ⟨_, rfl⟩
      · cases ht
      (repeat' (first | refine Wl.moveE (by conv => { lhs; whnf }) ?_ | refine Wl.assignE (by conv => { lhs; whnf }) ?_ | refine Wl.nil ?_ | refine Wl.extract rfl rfl ?_ | refine Wl.notB rfl ?_ | refine Qseq.normal ?_ | refine Wc.seq ?_ | refine Wc.region ?_ | refine Wc.ret ?_ | refine Qseq.ret ?_ | refine Qblk.ret ?_ | refine Qloop.ret ?_ | refine Wc.condT rfl ?_))
      rw [hq, hq2]
      exact Qfn.ret2 rfl rfl rfl ⟨_, rfl, rfl, n2⟩
    | cons c r2 =>
      simp only [List.length_cons] at hlen2
      by_cases h34 : c = 34
      · subst h34
        (repeat' (first | refine Wl.moveE (by conv => { lhs; whnf }) ?_ | refine Wl.guardY rfl rfl ?_ | refine Wc.seq ?_ | refine Wc.region ?_ | (refine Wl.sneq rfl rfl (fun _ => ?_) (fun _ => ?_) <;> (first | (exfalso; contradiction) | skip))))
        refine Wl.idxStr (b := 34) rfl rfl (by omega) rfl ?_
        (repeat' (first | refine Wl.moveE (by conv => { lhs; whnf }) ?_ | refine Wl.nil ?_ | refine Wl.guardY rfl rfl ?_ | refine Wl.pickTE rfl (by conv => { lhs; whnf }) ?_ | refine Qseq.normal ?_ | refine Wc.seq ?_ | refine Wc.region ?_ | refine Wc.exit ?_ | refine Qseq.exit ?_ | refine Qblk.hit ?_ | refine Qloop.exit ?_ | refine Wc.condF rfl ?_ | (refine Wl.neq rfl rfl (fun _ => ?_) (fun _ => ?_) <;> (first | (exfalso; contradiction) | skip))))
        refine Wl.call (CutPrefix_spec (34 :: r2) [34]) rfl ?_
        rintro _ _ ⟨h1, rfl⟩
        rcases h1 with ⟨t, ht, rfl⟩ | ⟨hno, _⟩
        rotate_left
        · exact absurd rfl (hno r2)
        obtain rfl : r2 = t := by cases ht; rfl
        have hap : ac.length ≤ 200000000 := by omega
        (repeat' (first | refine Wl.moveE (by conv => { lhs; whnf }) ?_ | refine Wl.assignE (by conv => { lhs; whnf }) ?_ | refine Wl.nil ?_ | refine Wl.extract rfl rfl ?_ | refine Wl.notB rfl ?_ | refine Qseq.normal ?_ | refine Wc.seq ?_ | refine Wc.region ?_ | refine Wc.skip ?_ | refine Wc.condF rfl ?_))
        refine Wl.append1 (y := 0) goodR8 ho2 rfl rfl rfl rfl rfl (by omega) (by omega) (by simp only [maxLen]; omega) (by omega) rfl rfl fun v3 w3 p ho3 hc3 _ => ?_
        have s2 := n2.size
        have n3 : New w w3 := Chg.trans n2 hc3 fun b hb e => by have := (ho2.lt e).1; omega
        (repeat' (first | refine Wl.moveE (by conv => { lhs; whnf }) ?_ | refine Wl.assignE (by conv => { lhs; whnf }) ?_ | refine Wl.nil ?_ | refine Qseq.normal ?_ | refine Wc.seq ?_ | refine Wc.region ?_ | refine Wc.skip ?_ | refine Wc.condT rfl ?_ | refine Wc.condF rfl ?_ | refine Wl.seql rfl rfl (fun _ => ?_) (fun _ => ?_)))
        · have hr0 : r2 = [] := by assumption
          subst hr0
          rw [inT_end] at hq2
          refine Wl.bytesStr (ho3.rd (mono_one _)) rfl ?_
          (repeat' (first | refine Wl.assignE (by conv => { lhs; whnf }) ?_ | refine Wl.nil ?_ | refine Qseq.normal ?_ | refine Wc.ret ?_ | refine Qseq.ret ?_ | refine Qblk.ret ?_ | refine Qloop.ret ?_))
          rw [hq, hq2]
          exact Qfn.ret2 rfl rfl rfl ⟨_, rfl, rfl, n3⟩
        · have hr0 : r2 ≠ [] := by assumption
          refine Wl.call (CutPrefix_spec r2 [44, 32]) rfl ?_
          rintro _ _ ⟨h1, rfl⟩
          rcases h1 with ⟨t, rfl, rfl⟩ | ⟨hno, rfl⟩
          · (repeat' (first | refine Wl.moveE (by conv => { lhs; whnf }) ?_ | refine Wl.assignE (by conv => { lhs; whnf }) ?_ | refine Wl.nil ?_ | refine Wl.extract rfl rfl ?_ | refine Wl.notB rfl ?_ | refine Qseq.normal ?_ | refine Wc.seq ?_ | refine Wc.region ?_ | refine Wc.skip ?_ | refine Qblk.normal ?_ | refine Wc.condF rfl ?_))
            replace hq2 : inT r acc = inT (34 :: 44 :: 32 :: t) ac := hq2
            rw [inT_go] at hq2
            simp only [List.length_append, List.length_cons, List.length_nil] at hlen2
            exact Qloop.normal (t, v3, ac ++ [0]) ⟨rfl, rfl, trivial⟩ ⟨by simp only [List.length_append, List.length_singleton]; omega, hq.trans hq2, ho3.mono goodR8.mo (fun b _ hb => by rcases hb with hb | hb <;> omega) (fun _ _ h => h), n3⟩ (by simp only [List.length_append, List.length_singleton]; omega)
          · (repeat' (first | refine Wl.moveE (by conv => { lhs; whnf }) ?_ | refine Wl.assignE (by conv => { lhs; whnf }) ?_ | refine Wl.nil ?_ | refine Wl.extract rfl rfl ?_ | refine Wl.notB rfl ?_ | refine Qseq.normal ?_ | refine Wc.seq ?_ | refine Wc.region ?_ | refine Wc.ret ?_ | refine Qblk.ret ?_ | refine Qloop.ret ?_ | refine Wc.condT rfl ?_))
            rw [hq, hq2, inT_no hr0 hno]
            exact Qfn.ret2 rfl rfl rfl ⟨_, rfl, rfl, n3⟩
      have hc34 : c.toNat ≠ 34 := fun e => h34 (UInt8.toNat_inj.1 e)
      have hap : ac.length ≤ 200000000 := by omega
      by_cases h92 : c = 92
      · subst h92
        (repeat' (first | refine Wl.moveE (by conv => { lhs; whnf }) ?_ | refine Wl.guardY rfl rfl ?_ | refine Wc.seq ?_ | refine Wc.region ?_ | (refine Wl.sneq rfl rfl (fun _ => ?_) (fun _ => ?_) <;> (first | (exfalso; contradiction) | skip))))
        refine Wl.idxStr (b := 92) rfl rfl (by omega) rfl ?_
        (repeat' (first | refine Wl.moveE (by conv => { lhs; whnf }) ?_ | refine Wl.nil ?_ | refine Wl.guardY rfl rfl ?_ | refine Wl.pickTE rfl (by conv => { lhs; whnf }) ?_ | refine Qseq.normal ?_ | refine Wc.seq ?_ | refine Wc.region ?_ | refine Wc.block ?_ | refine Wc.skip ?_ | refine Wc.condT rfl ?_ | (refine Wl.neq rfl rfl (fun _ => ?_) (fun _ => ?_) <;> (first | (exfalso; omega) | skip))))
        refine Wl.idxStr (b := 92) rfl rfl (by omega) rfl ?_
        (repeat' (first | refine Wl.moveE (by conv => { lhs; whnf }) ?_ | refine Wl.nil ?_ | refine Qseq.normal ?_ | refine Wc.region ?_ | refine Wc.condT rfl ?_ | (refine Wl.eql rfl rfl (fun _ => ?_) (fun _ => ?_) <;> (first | (exfalso; contradiction) | skip))))
        refine Wl.strFrom rfl rfl (by omega) (by simp only [List.length_cons]; omega) ?_
        rw [show (92 :: r2).drop (1 : Int).toNat = r2 from rfl]
        cases r2 with
        | nil =>
          (repeat' (first | refine Wl.moveE (by conv => { lhs; whnf }) ?_ | refine Wl.assignE (by conv => { lhs; whnf }) ?_ | refine Wl.nil ?_ | refine Qseq.normal ?_ | refine Wc.seq ?_ | refine Wc.region ?_ | refine Wc.ret ?_ | refine Qseq.ret ?_ | refine Qblk.ret ?_ | refine Qloop.ret ?_ | refine Wc.condT rfl ?_ | (refine Wl.seql rfl rfl (fun _ => ?_) (fun _ => ?_) <;> (first | (exfalso; contradiction) | skip))))
          rw [inT_esc0] at hq2
          rw [hq, hq2]
          exact Qfn.ret2 rfl rfl rfl ⟨_, rfl, rfl, n2⟩
        | cons d r3 =>
          simp only [List.length_cons] at hlen2
          (repeat' (first | refine Wl.moveE (by conv => { lhs; whnf }) ?_ | refine Wl.assignE (by conv => { lhs; whnf }) ?_ | refine Wl.nil ?_ | refine Qseq.normal ?_ | refine Wc.seq ?_ | refine Wc.region ?_ | refine Wc.skip ?_ | refine Wc.condF rfl ?_ | (refine Wl.seql rfl rfl (fun _ => ?_) (fun _ => ?_) <;> (first | (exfalso; contradiction) | skip))))
          refine Wl.idxStr (b := d) rfl rfl (by omega) rfl ?_
          refine Wl.append1 (y := d) goodR8 ho2 rfl rfl rfl rfl rfl (by omega) (by omega) (by simp only [maxLen]; omega) (by omega) rfl rfl fun v3 w3 p ho3 hc3 _ => ?_
          have s2 := n2.size
          (repeat' (first | refine Wl.moveE (by conv => { lhs; whnf }) ?_ | refine Wl.assignE (by conv => { lhs; whnf }) ?_ | refine Wl.nil ?_ | refine Qseq.normal ?_ | refine Wc.region ?_))
          refine Wl.strFrom rfl rfl (by omega) (by simp only [List.length_cons]; omega) ?_
          (repeat' (first | refine Wl.assignE (by conv => { lhs; whnf }) ?_ | refine Wl.nil ?_ | refine Qblk.normal ?_))
          refine Qloop.normal (r3, v3, ac ++ [d]) ⟨rfl, rfl, trivial⟩ ⟨by simp only [List.length_append, List.length_singleton]; omega, by dsimp only; rw [hq2, inT_esc], ho3.mono goodR8.mo (fun b _ hb => by rcases hb with hb | hb <;> omega) (fun _ _ h => h), Chg.trans n2 hc3 fun b hb e => by have := (ho2.lt e).1; omega⟩ (by simp only [List.length_cons]; omega)
      · have hc92 : c.toNat ≠ 92 := fun e => h92 (UInt8.toNat_inj.1 e)
        (repeat' (first | refine Wl.moveE (by conv => { lhs; whnf }) ?_ | refine Wl.guardY rfl rfl ?_ | refine Wc.seq ?_ | refine Wc.region ?_ | (refine Wl.sneq rfl rfl (fun _ => ?_) (fun _ => ?_) <;> (first | (exfalso; contradiction) | skip))))
        refine Wl.idxStr (b := c) rfl rfl (by omega) rfl ?_
        (repeat' (first | refine Wl.moveE (by conv => { lhs; whnf }) ?_ | refine Wl.nil ?_ | refine Wl.guardY rfl rfl ?_ | refine Wl.pickTE rfl (by conv => { lhs; whnf }) ?_ | refine Qseq.normal ?_ | refine Wc.seq ?_ | refine Wc.region ?_ | refine Wc.block ?_ | refine Wc.skip ?_ | refine Wc.condT rfl ?_ | (refine Wl.neq rfl rfl (fun _ => ?_) (fun _ => ?_) <;> (first | (exfalso; omega) | skip))))
        refine Wl.idxStr (b := c) rfl rfl (by omega) rfl ?_
        (repeat' (first | refine Wl.moveE (by conv => { lhs; whnf }) ?_ | refine Wl.nil ?_ | refine Qseq.normal ?_ | refine Wc.seq ?_ | refine Wc.region ?_ | refine Wc.skip ?_ | refine Wc.condF rfl ?_ | (refine Wl.eql rfl rfl (fun _ => ?_) (fun _ => ?_) <;> (first | (exfalso; omega) | skip)) | (refine Wl.seql rfl rfl (fun _ => ?_) (fun _ => ?_) <;> (first | (exfalso; contradiction) | skip))))
        refine Wl.idxStr (b := c) rfl rfl (by omega) rfl ?_
        refine Wl.append1 (y := c) goodR8 ho2 rfl rfl rfl rfl rfl (by omega) (by omega) (by simp only [maxLen]; omega) (by omega) rfl rfl fun v3 w3 p ho3 hc3 _ => ?_
        have s2 := n2.size
        (repeat' (first | refine Wl.moveE (by conv => { lhs; whnf }) ?_ | refine Wl.assignE (by conv => { lhs; whnf }) ?_ | refine Wl.nil ?_ | refine Qseq.normal ?_ | refine Wc.region ?_))
        refine Wl.strFrom rfl rfl (by omega) (by simp only [List.length_cons]; omega) ?_
        (repeat' (first | refine Wl.assignE (by conv => { lhs; whnf }) ?_ | refine Wl.nil ?_ | refine Qblk.normal ?_))
        refine Qloop.normal (r2, v3, ac ++ [c]) ⟨rfl, rfl, trivial⟩ ⟨by simp only [List.length_append, List.length_singleton]; omega, by dsimp only; rw [hq2, inT_plain h34 h92], ho3.mono goodR8.mo (fun b _ hb => by rcases hb with hb | hb <;> omega) (fun _ _ h => h), Chg.trans n2 hc3 fun b hb e => by have := (ho2.lt e).1; omega⟩ (by simp only [List.length_cons]; omega)
theorem inT_len : ∀ (n : Nat) (s acc r : List UInt8), s.length ≤ n → inT s acc = some r → r.length ≤ acc.length + s.length
  | 0, s, acc, r, hn, h => by
    obtain rfl : s = [] := List.eq_nil_of_length_eq_zero (by omega)
    rw [inT_nil] at h; cases h
  | n + 1, s, acc, r, hn, h => by
    rw [inT.eq_def] at h
    split at h
    · cases h
    · cases h; simp
    · have := inT_len n _ _ _ (by simp only [List.length_cons] at hn ⊢; omega) h
      simp only [List.length_append, List.length_cons, List.length_nil] at this ⊢; omega
    · cases h
    · cases h
    · have := inT_len n _ _ _ (by simp only [List.length_cons] at hn ⊢; omega) h
      simp only [List.length_append, List.length_cons, List.length_nil] at this ⊢; omega
    · have := inT_len n _ _ _ (by simp only [List.length_cons] at hn ⊢; omega) h
      simp only [List.length_append, List.length_cons, List.length_nil] at this ⊢; omega
theorem listedM_len {b e : UInt8} {sz mx : Nat} {s v : List UInt8} (hsz : sz ≤ 4) (h : listedM b e sz mx s = some v) : v.length ≤ 4 * s.length + 4 := by
  unfold listedM at h
  split at h
  · split at h
    · split at h
      · have h1 := wordsM_len h
        rw [splitR_length] at h1
        rename_i c r _ _
        have h2 := List.count_le_length (a := (32 : UInt8)) (l := r.dropLast)
        have h3 : r.dropLast.length ≤ r.length := by simp
        have h4 : sz * (r.dropLast.count 32 + 1) ≤ 4 * (r.dropLast.count 32 + 1) := Nat.mul_le_mul_right _ hsz
        simp only [List.length_nil, List.length_cons] at h1 ⊢; omega
      · cases h
    · cases h
  · cases h
theorem cand_len {s v : List UInt8} (h : candM s = some v) : v.length ≤ 4 * s.length + 4 := by
  unfold candM at h
  split at h
  · rename_i t
    have h' : inT t [] = some v := h
    have := inT_len _ _ _ _ (Nat.le_refl _) h'
    simp only [List.length_nil, List.length_cons] at this ⊢; omega
  · exact listedM_len (by omega) h
  · exact listedM_len (by omega) h
  · split at h
    · cases h; simp
    · cases h
theorem cand34 {s : List UInt8} (h : s.head? = some 34) : candM s = tq s [] := by
  cases s with
  | nil => cases h
  | cons c s => cases h; rfl
theorem cand60 {s : List UInt8} (h : s.head? = some 60) : candM s = listedM 60 62 4 4294967295 s := by
  cases s with
  | nil => cases h
  | cons c s => cases h; rfl
theorem cand91 {s : List UInt8} (h : s.head? = some 91) : candM s = listedM 91 93 1 255 s := by
  cases s with
  | nil => cases h
  | cons c s => cases h; rfl
theorem candE {s : List UInt8} (h1 : s.head? ≠ some 34) (h2 : s.head? ≠ some 60) (h3 : s.head? ≠ some 91) : candM s = if s = [45] then some [] else none := by
  unfold candM
  split <;> simp_all
set_option maxHeartbeats 1000000 in
theorem cParse_spec {w : World} {s : List UInt8} (hE : ErrV w) (hl : s.length ≤ 20000000)
    (hS : ∀ v, candM s = some v → v.length ≤ 4 * s.length + 4 → ∀ w', New w w' → Calls Tryz.prog 12 #[vs v] w' (Ret fun r w'' => r = vs (showM v) ∧ New w' w'')) :
    Calls Tryz.prog 14 #[vs s] w (Ret fun r w' => r = .tuple #[vs (parseM s).1, vi (parseM s).2] ∧ New w w') := by
  have n0 : New w w := Chg.refl _ _
  refine calls_of_Wc Tryz.func14 rfl Tryz.ntmps14 rfl ?_
  by_cases h34 : s.head? = some 34
  · have hne : s ≠ [45] := fun e => by rw [e] at h34; cases h34
    (repeat' (first | refine Wl.moveE (by conv => { lhs; whnf }) ?_ | refine Wl.assignE (by conv => { lhs; whnf }) ?_ | refine Wl.nil ?_ | refine Qseq.normal ?_ | refine Wc.seq ?_ | refine Wc.region ?_ | refine Wc.block ?_ | (refine Wl.seql rfl rfl (fun _ => ?_) (fun _ => ?_) <;> (first | (exfalso; contradiction) | skip))))
    refine Wl.call (HasPrefix1_spec s 34) rfl ?_
    rintro _ _ ⟨rfl, rfl⟩
    rw [decide_eq_true h34]
    (repeat' (first | refine Wl.moveE (by conv => { lhs; whnf }) ?_ | refine Wl.assignE (by conv => { lhs; whnf }) ?_ | refine Wl.nil ?_ | refine Qseq.normal ?_ | refine Wc.region ?_ | refine Wc.condT rfl ?_))
    refine Wl.call (texts_spec' (s := s) (by omega)) rfl ?_
    rintro _ w1 ⟨rfl, n1⟩
    cases hc : tq s [] with
    | none =>
      (repeat' (first | refine Wl.moveE (by conv => { lhs; whnf }) ?_ | refine Wl.assignE (by conv => { lhs; whnf }) ?_ | refine Wl.nil ?_ | refine Wl.extract rfl rfl ?_ | refine Wl.guardN rfl rfl ?_ | refine Wl.pickTE rfl (by conv => { lhs; whnf }) ?_ | refine Wl.notB rfl ?_ | refine Qseq.normal ?_ | refine Wc.seq ?_ | refine Wc.region ?_ | refine Wc.ret ?_ | refine Qseq.ret ?_ | refine Qblk.normal ?_ | refine Wc.condT rfl ?_))
      rw [show parseM s = ([], 4) by unfold parseM; rw [(cand34 h34), hc]]
      exact Qfn.ret2 rfl rfl rfl ⟨_, rfl, rfl, n1⟩
    | some v =>
      have hcs : candM s = some v := (cand34 h34).trans hc
      (repeat' (first | refine Wl.moveE (by conv => { lhs; whnf }) ?_ | refine Wl.assignE (by conv => { lhs; whnf }) ?_ | refine Wl.nil ?_ | refine Wl.extract rfl rfl ?_ | refine Wl.guardY rfl rfl ?_ | refine Wl.notB rfl ?_ | refine Qseq.normal ?_ | refine Wc.seq ?_ | refine Wc.region ?_ | refine Qblk.normal ?_))
      refine Wl.call (hS v hcs (cand_len hcs) _ n1) rfl ?_
      rintro _ w2 ⟨rfl, n2⟩
      (repeat' (first | refine Wl.moveE (by conv => { lhs; whnf }) ?_ | refine Wl.assignE (by conv => { lhs; whnf }) ?_ | refine Wl.nil ?_ | refine Wl.guardY rfl rfl ?_ | refine Wl.pickFE rfl (by conv => { lhs; whnf }) ?_ | refine Qseq.normal ?_ | refine Wc.seq ?_ | refine Wc.region ?_ | refine Wc.skip ?_ | refine Wc.ret ?_ | refine Qseq.ret ?_ | refine Wc.condT rfl ?_ | refine Wc.condF rfl ?_ | refine Wl.sneq rfl rfl (fun _ => ?_) (fun _ => ?_)))
      · have hne : showM v ≠ s := by assumption
        rw [show parseM s = ([], 4) by unfold parseM; rw [hcs]; exact if_neg hne]
        exact Qfn.ret2 rfl rfl rfl ⟨_, rfl, rfl, n1.trans n2⟩
      · have heq : showM v = s := by assumption
        rw [show parseM s = (v, 0) by unfold parseM; rw [hcs]; exact if_pos heq]
        exact Qfn.ret2 rfl rfl rfl ⟨_, rfl, rfl, n1.trans n2⟩
  by_cases h60 : s.head? = some 60
  · have hne : s ≠ [45] := fun e => by rw [e] at h60; cases h60
    (repeat' (first | refine Wl.moveE (by conv => { lhs; whnf }) ?_ | refine Wl.assignE (by conv => { lhs; whnf }) ?_ | refine Wl.nil ?_ | refine Qseq.normal ?_ | refine Wc.seq ?_ | refine Wc.region ?_ | refine Wc.block ?_ | (refine Wl.seql rfl rfl (fun _ => ?_) (fun _ => ?_) <;> (first | (exfalso; contradiction) | skip))))
    refine Wl.call (HasPrefix1_spec s 34) rfl ?_
    rintro _ _ ⟨rfl, rfl⟩
    rw [decide_eq_false h34]
    (repeat' (first | refine Wl.moveE (by conv => { lhs; whnf }) ?_ | refine Wl.assignE (by conv => { lhs; whnf }) ?_ | refine Wl.nil ?_ | refine Qseq.normal ?_ | refine Wc.seq ?_ | refine Wc.region ?_ | refine Wc.condF rfl ?_))
    refine Wl.call (HasPrefix1_spec s 60) rfl ?_
    rintro _ _ ⟨rfl, rfl⟩
    rw [decide_eq_true h60]
    (repeat' (first | refine Wl.moveE (by conv => { lhs; whnf }) ?_ | refine Wl.assignE (by conv => { lhs; whnf }) ?_ | refine Wl.nil ?_ | refine Qseq.normal ?_ | refine Wc.region ?_ | refine Wc.condT rfl ?_))
    refine Wl.call (listed_spec (s := s) (b := 60) (e := 62) (sz := 4) hE (.inr ⟨rfl, rfl⟩) (by omega)) rfl ?_
    rintro _ w1 ⟨rfl, n1⟩
    cases hc : listedM 60 62 4 4294967295 s with
    | none =>
      (repeat' (first | refine Wl.moveE (by conv => { lhs; whnf }) ?_ | refine Wl.assignE (by conv => { lhs; whnf }) ?_ | refine Wl.nil ?_ | refine Wl.extract rfl rfl ?_ | refine Wl.guardN rfl rfl ?_ | refine Wl.pickTE rfl (by conv => { lhs; whnf }) ?_ | refine Wl.notB rfl ?_ | refine Qseq.normal ?_ | refine Wc.seq ?_ | refine Wc.region ?_ | refine Wc.ret ?_ | refine Qseq.ret ?_ | refine Qblk.normal ?_ | refine Wc.condT rfl ?_))
      rw [show parseM s = ([], 4) by unfold parseM; rw [(cand60 h60), hc]]
      exact Qfn.ret2 rfl rfl rfl ⟨_, rfl, rfl, n1⟩
    | some v =>
      have hcs : candM s = some v := (cand60 h60).trans hc
      (repeat' (first | refine Wl.moveE (by conv => { lhs; whnf }) ?_ | refine Wl.assignE (by conv => { lhs; whnf }) ?_ | refine Wl.nil ?_ | refine Wl.extract rfl rfl ?_ | refine Wl.guardY rfl rfl ?_ | refine Wl.notB rfl ?_ | refine Qseq.normal ?_ | refine Wc.seq ?_ | refine Wc.region ?_ | refine Qblk.normal ?_))
      refine Wl.call (hS v hcs (cand_len hcs) _ n1) rfl ?_
      rintro _ w2 ⟨rfl, n2⟩
      (repeat' (first | refine Wl.moveE (by conv => { lhs; whnf }) ?_ | refine Wl.assignE (by conv => { lhs; whnf }) ?_ | refine Wl.nil ?_ | refine Wl.guardY rfl rfl ?_ | refine Wl.pickFE rfl (by conv => { lhs; whnf }) ?_ | refine Qseq.normal ?_ | refine Wc.seq ?_ | refine Wc.region ?_ | refine Wc.skip ?_ | refine Wc.ret ?_ | refine Qseq.ret ?_ | refine Wc.condT rfl ?_ | refine Wc.condF rfl ?_ | refine Wl.sneq rfl rfl (fun _ => ?_) (fun _ => ?_)))
      · have hne : showM v ≠ s := by assumption
        rw [show parseM s = ([], 4) by unfold parseM; rw [hcs]; exact if_neg hne]
        exact Qfn.ret2 rfl rfl rfl ⟨_, rfl, rfl, n1.trans n2⟩
      · have heq : showM v = s := by assumption
        rw [show parseM s = (v, 0) by unfold parseM; rw [hcs]; exact if_pos heq]
        exact Qfn.ret2 rfl rfl rfl ⟨_, rfl, rfl, n1.trans n2⟩
  by_cases h91 : s.head? = some 91
  · have hne : s ≠ [45] := fun e => by rw [e] at h91; cases h91
    (repeat' (first | refine Wl.moveE (by conv => { lhs; whnf }) ?_ | refine Wl.assignE (by conv => { lhs; whnf }) ?_ | refine Wl.nil ?_ | refine Qseq.normal ?_ | refine Wc.seq ?_ | refine Wc.region ?_ | refine Wc.block ?_ | (refine Wl.seql rfl rfl (fun _ => ?_) (fun _ => ?_) <;> (first | (exfalso; contradiction) | skip))))
    refine Wl.call (HasPrefix1_spec s 34) rfl ?_
    rintro _ _ ⟨rfl, rfl⟩
    rw [decide_eq_false h34]
    (repeat' (first | refine Wl.moveE (by conv => { lhs; whnf }) ?_ | refine Wl.assignE (by conv => { lhs; whnf }) ?_ | refine Wl.nil ?_ | refine Qseq.normal ?_ | refine Wc.seq ?_ | refine Wc.region ?_ | refine Wc.condF rfl ?_))
    refine Wl.call (HasPrefix1_spec s 60) rfl ?_
    rintro _ _ ⟨rfl, rfl⟩
    rw [decide_eq_false h60]
    (repeat' (first | refine Wl.moveE (by conv => { lhs; whnf }) ?_ | refine Wl.assignE (by conv => { lhs; whnf }) ?_ | refine Wl.nil ?_ | refine Qseq.normal ?_ | refine Wc.seq ?_ | refine Wc.region ?_ | refine Wc.condF rfl ?_))
    refine Wl.call (HasPrefix1_spec s 91) rfl ?_
    rintro _ _ ⟨rfl, rfl⟩
    rw [decide_eq_true h91]
    (repeat' (first | refine Wl.moveE (by conv => { lhs; whnf }) ?_ | refine Wl.assignE (by conv => { lhs; whnf }) ?_ | refine Wl.nil ?_ | refine Qseq.normal ?_ | refine Wc.region ?_ | refine Wc.condT rfl ?_))
    refine Wl.call (listed_spec (s := s) (b := 91) (e := 93) (sz := 1) hE (.inl ⟨rfl, rfl⟩) (by omega)) rfl ?_
    rintro _ w1 ⟨rfl, n1⟩
    cases hc : listedM 91 93 1 255 s with
    | none =>
      (repeat' (first | refine Wl.moveE (by conv => { lhs; whnf }) ?_ | refine Wl.assignE (by conv => { lhs; whnf }) ?_ | refine Wl.nil ?_ | refine Wl.extract rfl rfl ?_ | refine Wl.guardN rfl rfl ?_ | refine Wl.pickTE rfl (by conv => { lhs; whnf }) ?_ | refine Wl.notB rfl ?_ | refine Qseq.normal ?_ | refine Wc.seq ?_ | refine Wc.region ?_ | refine Wc.ret ?_ | refine Qseq.ret ?_ | refine Qblk.normal ?_ | refine Wc.condT rfl ?_))
      rw [show parseM s = ([], 4) by unfold parseM; rw [(cand91 h91), hc]]
      exact Qfn.ret2 rfl rfl rfl ⟨_, rfl, rfl, n1⟩
    | some v =>
      have hcs : candM s = some v := (cand91 h91).trans hc
      (repeat' (first | refine Wl.moveE (by conv => { lhs; whnf }) ?_ | refine Wl.assignE (by conv => { lhs; whnf }) ?_ | refine Wl.nil ?_ | refine Wl.extract rfl rfl ?_ | refine Wl.guardY rfl rfl ?_ | refine Wl.notB rfl ?_ | refine Qseq.normal ?_ | refine Wc.seq ?_ | refine Wc.region ?_ | refine Qblk.normal ?_))
      refine Wl.call (hS v hcs (cand_len hcs) _ n1) rfl ?_
      rintro _ w2 ⟨rfl, n2⟩
      (repeat' (first | refine Wl.moveE (by conv => { lhs; whnf }) ?_ | refine Wl.assignE (by conv => { lhs; whnf }) ?_ | refine Wl.nil ?_ | refine Wl.guardY rfl rfl ?_ | refine Wl.pickFE rfl (by conv => { lhs; whnf }) ?_ | refine Qseq.normal ?_ | refine Wc.seq ?_ | refine Wc.region ?_ | refine Wc.skip ?_ | refine Wc.ret ?_ | refine Qseq.ret ?_ | refine Wc.condT rfl ?_ | refine Wc.condF rfl ?_ | refine Wl.sneq rfl rfl (fun _ => ?_) (fun _ => ?_)))
      · have hne : showM v ≠ s := by assumption
        rw [show parseM s = ([], 4) by unfold parseM; rw [hcs]; exact if_neg hne]
        exact Qfn.ret2 rfl rfl rfl ⟨_, rfl, rfl, n1.trans n2⟩
      · have heq : showM v = s := by assumption
        rw [show parseM s = (v, 0) by unfold parseM; rw [hcs]; exact if_pos heq]
        exact Qfn.ret2 rfl rfl rfl ⟨_, rfl, rfl, n1.trans n2⟩
  have hcE := candE h34 h60 h91
  have n1 := n0
  (repeat' (first | refine Wl.moveE (by conv => { lhs; whnf }) ?_ | refine Wl.assignE (by conv => { lhs; whnf }) ?_ | refine Wl.nil ?_ | refine Qseq.normal ?_ | refine Wc.seq ?_ | refine Wc.region ?_ | refine Wc.block ?_ | refine Wl.seql rfl rfl (fun _ => ?_) (fun _ => ?_)))
  all_goals
    refine Wl.call (HasPrefix1_spec s 34) rfl ?_
    rintro _ _ ⟨rfl, rfl⟩
    rw [decide_eq_false h34]
    (repeat' (first | refine Wl.moveE (by conv => { lhs; whnf }) ?_ | refine Wl.assignE (by conv => { lhs; whnf }) ?_ | refine Wl.nil ?_ | refine Qseq.normal ?_ | refine Wc.seq ?_ | refine Wc.region ?_ | refine Wc.condF rfl ?_))
    refine Wl.call (HasPrefix1_spec s 60) rfl ?_
    rintro _ _ ⟨rfl, rfl⟩
    rw [decide_eq_false h60]
    (repeat' (first | refine Wl.moveE (by conv => { lhs; whnf }) ?_ | refine Wl.assignE (by conv => { lhs; whnf }) ?_ | refine Wl.nil ?_ | refine Qseq.normal ?_ | refine Wc.seq ?_ | refine Wc.region ?_ | refine Wc.condF rfl ?_))
    refine Wl.call (HasPrefix1_spec s 91) rfl ?_
    rintro _ _ ⟨rfl, rfl⟩
    rw [decide_eq_false h91]
    (repeat' (first | refine Wl.moveE (by conv => { lhs; whnf }) ?_ | refine Wl.assignE (by conv => { lhs; whnf }) ?_ | refine Wl.nil ?_ | refine Wl.guardY rfl rfl ?_ | refine Wl.guardN rfl rfl ?_ | refine Wl.pickTE rfl (by conv => { lhs; whnf }) ?_ | refine Wl.notB rfl ?_ | refine Qseq.normal ?_ | refine Wc.seq ?_ | refine Wc.region ?_ | refine Wc.skip ?_ | refine Wc.ret ?_ | refine Qseq.ret ?_ | refine Qblk.normal ?_ | refine Wc.condT rfl ?_ | refine Wc.condF rfl ?_))
  · have he : s = [45] := by assumption
    rw [if_pos he] at hcE
    refine Wl.call (hS [] hcE (cand_len hcE) _ n1) rfl ?_
    rintro _ w2 ⟨rfl, n2⟩
    (repeat' (first | refine Wl.moveE (by conv => { lhs; whnf }) ?_ | refine Wl.assignE (by conv => { lhs; whnf }) ?_ | refine Wl.nil ?_ | refine Wl.guardY rfl rfl ?_ | refine Wl.pickFE rfl (by conv => { lhs; whnf }) ?_ | refine Qseq.normal ?_ | refine Wc.seq ?_ | refine Wc.region ?_ | refine Wc.skip ?_ | refine Wc.ret ?_ | refine Qseq.ret ?_ | refine Wc.condT rfl ?_ | refine Wc.condF rfl ?_ | refine Wl.sneq rfl rfl (fun _ => ?_) (fun _ => ?_)))
    · exact absurd he.symm (by assumption)
    · rw [show parseM s = ([], 0) by unfold parseM; rw [hcE]; exact if_pos he.symm]
      exact Qfn.ret2 rfl rfl rfl ⟨_, rfl, rfl, n1.trans n2⟩
  · rw [if_neg (by assumption)] at hcE
    rw [show parseM s = ([], 4) by unfold parseM; rw [hcE]]
    exact Qfn.ret2 rfl rfl rfl ⟨_, rfl, rfl, n1⟩
end Go.Proofs.YthppadlcejpgbaaGreatDoor

namespace Go.Proofs.YthppadlcejpgbaaGreatDoor
open Go Wk
open Go.RowKit (Below)
attribute [local irreducible] Go.Calls

theorem aw1 : nums 4 [0, 0, 0, 1, 255, 255, 255, 255] = [1, 4294967295] ∧ form 4 [0, 0, 0, 1, 255, 255, 255, 255] = 0 := by decide +kernel
theorem aw2 : txts [97, 98, 0, 99, 0] = [[97, 98], [99]] ∧ tform [97, 98, 0, 99, 0] = 0 := by decide +kernel
theorem aw3 : candM [60, 48, 120, 49, 32, 48, 120, 102, 102, 62] = some [0, 0, 0, 1, 0, 0, 0, 255] ∧ look [0, 0, 0, 1, 0, 0, 0, 255] ≠ 1 := by decide +kernel
theorem aw4 : parseM [60, 48, 120, 49, 32, 48, 120, 102, 102, 62] = ([0, 0, 0, 1, 0, 0, 0, 255], 0) := by decide +kernel
theorem awake_spec {w : World} (hD : DeB w) (hE : ErrV w) : Calls Tryz.prog 16 #[] w (Ret fun r w' => r = .bool true ∧ New w w') := by
  refine calls_of_Wc Tryz.func16 rfl Tryz.ntmps16 rfl ?_
  (repeat' (first | refine Wl.assignE (by conv => { lhs; whnf }) ?_ | refine Wl.nil ?_ | refine Qseq.normal ?_ | refine Wc.seq ?_ | refine Wc.region ?_))
  refine Wl.call (cU32s_spec (l := [0, 0, 0, 1, 255, 255, 255, 255]) (by decide)) rfl ?_
  rintro _ w1 ⟨v1, rfl, o1, n1⟩
  rw [aw1.1] at o1
  rw [aw1.2]
  (repeat' (first | refine Wl.moveE (by conv => { lhs; whnf }) ?_ | refine Wl.assignE (by conv => { lhs; whnf }) ?_ | refine Wl.nil ?_ | refine Wl.extract rfl rfl ?_ | refine Qseq.normal ?_ | refine Wc.seq ?_ | refine Wc.region ?_))
  refine Wl.call (cTexts_spec (l := [97, 98, 0, 99, 0]) (by decide)) rfl ?_
  rintro _ w2 ⟨v2, rfl, o2, n2⟩
  rw [aw2.1] at o2
  rw [aw2.2]
  (repeat' (first | refine Wl.moveE (by conv => { lhs; whnf }) ?_ | refine Wl.assignE (by conv => { lhs; whnf }) ?_ | refine Wl.nil ?_ | refine Wl.extract rfl rfl ?_ | refine Qseq.normal ?_ | refine Wc.seq ?_ | refine Wc.region ?_))
  have n12 := New.trans n1 n2
  refine Wl.call (cParse_spec (s := [60, 48, 120, 49, 32, 48, 120, 102, 102, 62]) (hE.new n12) (by decide) (fun v hv hvl w' n' => ?_)) rfl ?_
  · have : v = [0, 0, 0, 1, 0, 0, 0, 255] := by rw [aw3.1] at hv; exact (Option.some.inj hv).symm
    subst this
    exact ShowN_spec ((hD.new n12).new n') (by decide) aw3.2
  rintro _ w3 ⟨rfl, n3⟩
  rw [aw4]
  have r1 := (o1.rd good32.mo).keep (stable_one _) (New.trans n2 n3).keep
  have r2 := (o2.rd goodStr.mo).keep (stable_one _) n3.keep
  obtain ⟨a1, c1, rfl, _, _⟩ := r1.form
  obtain ⟨a2, c2, rfl, _, _⟩ := r2.form
  (repeat' (first | refine Wl.moveE (by conv => { lhs; whnf }) ?_ | refine Wl.assignE (by conv => { lhs; whnf }) ?_ | refine Wl.nil ?_ | refine Wl.extract rfl rfl ?_ | refine Wl.guardY rfl rfl ?_ | refine Wl.pickTE rfl (by conv => { lhs; whnf }) ?_ | refine Wl.lenS rfl ?_ | refine Qseq.normal ?_ | refine Wc.seq ?_ | refine Wc.region ?_ | (refine Wl.eql rfl rfl (fun _ => ?_) (fun _ => ?_) <;> (first | (exfalso; omega) | (exfalso; contradiction) | skip))))
  refine Wl.idxAddrV r1 rfl rfl (by omega) rfl fun b o hc => ?_
  (repeat' (refine Wl.guardY rfl rfl ?_))
  refine Wl.load1 rfl hc ?_
  (repeat' (first | refine Wl.moveE (by conv => { lhs; whnf }) ?_ | refine Wl.guardY rfl rfl ?_ | refine Wl.pickTE rfl (by conv => { lhs; whnf }) ?_ | (refine Wl.eql rfl rfl (fun _ => ?_) (fun _ => ?_) <;> (first | (exfalso; omega) | skip))))
  refine Wl.idxAddrV r1 rfl rfl (by omega) rfl fun b o hc => ?_
  (repeat' (refine Wl.guardY rfl rfl ?_))
  refine Wl.load1 rfl hc ?_
  (repeat' (first | refine Wl.moveE (by conv => { lhs; whnf }) ?_ | refine Wl.guardY rfl rfl ?_ | refine Wl.pickTE rfl (by conv => { lhs; whnf }) ?_ | refine Wl.lenS rfl ?_ | (refine Wl.eql rfl rfl (fun _ => ?_) (fun _ => ?_) <;> (first | (exfalso; omega) | (exfalso; contradiction) | skip))))
  refine Wl.idxAddrV r2 rfl rfl (by omega) rfl fun b o hc => ?_
  (repeat' (refine Wl.guardY rfl rfl ?_))
  refine Wl.load1 rfl hc ?_
  (repeat' (first | refine Wl.moveE (by conv => { lhs; whnf }) ?_ | refine Wl.guardY rfl rfl ?_ | refine Wl.pickTE rfl (by conv => { lhs; whnf }) ?_ | (refine Wl.seql rfl rfl (fun _ => ?_) (fun _ => ?_) <;> (first | (exfalso; contradiction) | skip))))
  refine Wl.idxAddrV r2 rfl rfl (by omega) rfl fun b o hc => ?_
  (repeat' (refine Wl.guardY rfl rfl ?_))
  refine Wl.load1 rfl hc ?_
  (repeat' (first | refine Wl.moveE (by conv => { lhs; whnf }) ?_ | refine Wl.assignE (by conv => { lhs; whnf }) ?_ | refine Wl.nil ?_ | refine Wl.guardY rfl rfl ?_ | refine Wl.pickTE rfl (by conv => { lhs; whnf }) ?_ | refine Qseq.normal ?_ | refine Wc.ret ?_ | (refine Wl.seql rfl rfl (fun _ => ?_) (fun _ => ?_) <;> (first | (exfalso; contradiction) | skip))))
  exact Qfn.ret1 rfl rfl ⟨_, rfl, rfl, n12.trans n3⟩
end Go.Proofs.YthppadlcejpgbaaGreatDoor

namespace Go.Proofs.YthppadlcejpgbaaGreatDoor
open Go Wk
open Go.RowKit (Below)
attribute [local irreducible] Go.Calls

theorem rd_low {α : Type} {f : α → Value} {Pb : Nat → Prop} {w : World} {v : Value} {xs : List α} (h : RdS (one f) 1 Pb w v xs) : RdS (one f) 1 (fun b => b < w.heap.size) w v xs := by
  rcases h with h | h | ⟨b, off, c2, cur, e, fr, hv, hb, hh, h⟩
  · exact .inl h
  · exact .inr (.inl h)
  · exact .inr (.inr ⟨b, off, c2, cur, e, fr, hv, heap_lt hh, hh, h⟩)
theorem quoK {l : List UInt8} (k : Nat) (hl : l.length ≤ 100000000) : IntKind.i64.wrap ((l.length : Int).tdiv (k : Int)) = ((l.length / k : Nat) : Int) := by
  have e : (l.length : Int).tdiv (k : Int) = ((l.length / k : Nat) : Int) := rfl
  exact wrapI64 e (by have := Nat.div_le_self l.length k; omega)
theorem wide_at {l : List UInt8} {i : Nat} (n : Nat) (hn : n = 1 ∨ n = 2) (hi : i < l.length / (4 * n)) : wide (l.drop (4 * n * i)) (n : Int) = (number ((l.drop (4 * n * i)).take (4 * n)), 0, l.drop (4 * n * (i + 1))) := by
  have h1 : 4 * n * (i + 1) ≤ l.length := Nat.le_trans (Nat.mul_le_mul_left _ hi) (Nat.mul_div_le _ _)
  rw [Nat.mul_add, Nat.mul_one] at h1
  rw [wide_ok (by omega) (by omega) (by rw [List.length_drop]; omega)]
  rw [show (4 * (n : Int)).toNat = 4 * n by omega, List.drop_drop, Nat.mul_add, Nat.mul_one]
theorem wide_end {l : List UInt8} (n : Nat) (hn : n = 1 ∨ n = 2) : wide (l.drop (4 * n * (l.length / (4 * n)))) (n : Int) = (0, 4, l.drop (4 * n * (l.length / (4 * n)))) := by
  have h1 := Nat.div_add_mod l.length (4 * n)
  have h2 := Nat.mod_lt l.length (show 0 < 4 * n by omega)
  exact wide_form (by omega) (by omega) (by rw [List.length_drop]; omega)
theorem end_len {l : List UInt8} (k : Nat) : (l.drop (k * (l.length / k))).length = l.length % k := by
  have h1 := Nat.div_add_mod l.length k
  rw [List.length_drop]; omega
theorem txts_ok {l : List UInt8} (h : tform l = 0) : txts l = (cutS l).1 ∧ (cutS l).2 = [] := by
  have he : l = [] ∨ l.getLast? = some 0 := by
    unfold tform at h
    split at h
    · assumption
    · cases h
  exact ⟨(t_ok he).2, (cutS_end l).2 he⟩
theorem LeftR_spec {w : World} {b : Nat} {l : List UInt8} (h : Bk w b 57 [vs l]) : Calls Tryz.prog 11 #[.pointer (some ⟨b, 0, none⟩)] w (Ret fun r w' => r = vi l.length ∧ w = w') := by
  refine (Left_spec h).mono ?_
  rintro e w' ⟨rfl, rfl⟩
  exact ⟨_, rfl, rfl, rfl⟩
set_option maxHeartbeats 4000000 in
theorem walks_law {w : World} {l : List UInt8} (hD : DeB w) (hE : ErrV w) (hl : l.length ≤ 1048576) :
    Calls Tryz.prog 6 #[vs l] w (Ret fun r w' => r = .bool true ∧ New w w') := by
  have hll : l.length ≤ 100000000 := by omega
  have e4 : IntKind.i64.wrap ((l.length : Int).tdiv 4) = ((l.length / 4 : Nat) : Int) := quoK 4 hll
  have e8 : IntKind.i64.wrap ((l.length : Int).tdiv 8) = ((l.length / 8 : Nat) : Int) := quoK 8 hll
  refine calls_of_Wc Tryz.func6 rfl Tryz.ntmps6 rfl ?_
  (repeat' (first | refine Wl.assignE (by conv => { lhs; whnf }) ?_ | refine Wl.nil ?_ | refine Qseq.normal ?_ | refine Wc.seq ?_ | refine Wc.region ?_))
  refine Wl.call (awake_spec hD hE) rfl ?_
  rintro _ w0 ⟨rfl, n0⟩
  (repeat' (first | refine Wl.moveE (by conv => { lhs; whnf }) ?_ | refine Wl.nil ?_ | refine Wl.notB rfl ?_ | refine Qseq.normal ?_ | refine Wc.seq ?_ | refine Wc.region ?_ | refine Wc.skip ?_ | refine Wc.condF rfl ?_))
  refine Wl.call (cU32s_spec hll) rfl ?_
  rintro _ w1 ⟨v1, rfl, o1, n1⟩
  (repeat' (first | refine Wl.moveE (by conv => { lhs; whnf }) ?_ | refine Wl.assignE (by conv => { lhs; whnf }) ?_ | refine Wl.nil ?_ | refine Wl.extract rfl rfl ?_ | refine Qseq.normal ?_ | refine Wc.seq ?_ | refine Wc.region ?_))
  refine Wl.call (cU64s_spec hll) rfl ?_
  rintro _ w2 ⟨v2, rfl, o2, n2⟩
  (repeat' (first | refine Wl.moveE (by conv => { lhs; whnf }) ?_ | refine Wl.assignE (by conv => { lhs; whnf }) ?_ | refine Wl.nil ?_ | refine Wl.extract rfl rfl ?_ | refine Qseq.normal ?_ | refine Wc.seq ?_ | refine Wc.region ?_))
  refine Wl.call (cTexts_spec hll) rfl ?_
  rintro _ w3 ⟨v3, rfl, o3, n3⟩
  have r1 := rd_low ((o1.rd good32.mo).keep (stable_one _) (New.trans n2 n3).keep)
  have r2 := rd_low ((o2.rd good64.mo).keep (stable_one _) n3.keep)
  have r3 := rd_low (o3.rd goodStr.mo)
  clear o1 o2 o3
  (repeat' (first | refine Wl.moveE (by conv => { lhs; whnf }) ?_ | refine Wl.assignE (by conv => { lhs; whnf }) ?_ | refine Wl.nil ?_ | refine Wl.extract rfl rfl ?_ | refine Qseq.normal ?_ | refine Wc.seq ?_ | refine Wc.region ?_))
  refine Wl.call New_spec rfl ?_
  rintro _ w4 ⟨rfl, p4, n4⟩
  (repeat' (first | refine Wl.moveE (by conv => { lhs; whnf }) ?_ | refine Wl.assignE (by conv => { lhs; whnf }) ?_ | refine Wl.nil ?_ | refine Qseq.normal ?_ | refine Wc.seq ?_ | refine Wc.region ?_))
  refine Wl.call New_spec rfl ?_
  rintro _ w5 ⟨rfl, q5, n5⟩
  (repeat' (first | refine Wl.moveE (by conv => { lhs; whnf }) ?_ | refine Wl.assignE (by conv => { lhs; whnf }) ?_ | refine Wl.nil ?_ | refine Qseq.normal ?_ | refine Wc.seq ?_ | refine Wc.region ?_))
  refine Wl.call New_spec rfl ?_
  rintro _ w6 ⟨rfl, s6, n6⟩
  have hp4 := p4.lt
  have hq5 := q5.lt
  have hs6 := s6.lt
  have p6 := (p4.chg n5 id).chg n6 id
  have q6 := q5.chg n6 id
  have n36 := New.trans n4 (New.trans n5 n6)
  have r1 := r1.keep (stable_one _) n36.keep
  have r2 := r2.keep (stable_one _) n36.keep
  have r3 := r3.keep (stable_one _) n36.keep
  have nw3 := New.trans n0 (New.trans n1 (New.trans n2 n3))
  have n06 := New.trans nw3 n36
  have hs3 := nw3.size
  obtain ⟨a1, c1, rfl, hc1, hm1⟩ := r1.form
  obtain ⟨a2, c2, rfl, hc2, hm2⟩ := r2.form
  obtain ⟨a3, c3, rfl, hc3, hm3⟩ := r3.form
  simp only [maxLen] at hm1 hm2 hm3
  generalize w3.heap.size = P at *
  generalize w4.heap.size = Qb at *
  generalize w5.heap.size = Sb at *
  clear p4 q5 n4 n5 n6 n36 n0 n1 n2 n3 nw3
  (repeat' (first | refine Wl.assignE (by conv => { lhs; whnf }) ?_ | refine Wl.nil ?_ | refine Qseq.normal ?_ | refine Wc.seq ?_ | refine Wc.region ?_ | refine Wc.block ?_))
  have kp : ∀ {w'}, Chg (fun b => P ≤ b) w6 w' → Keep (fun b => b < P) w6 w' := fun h => h.keep fun b _ hb hp => by omega
  have e41 := fun i (hi : i < l.length / 4) => wide_at (l := l) (i := i) 1 (.inl rfl) hi
  have e42 := fun i (hi : i < l.length / 8) => wide_at (l := l) (i := i) 2 (.inr rfl) hi
  refine Wc.loop (σ := Nat) (fun i => [(0, vs l), (3, .slice a1 (nums 4 l).length c1), (4, vi (form 4 l)), (5, .slice a2 (nums 8 l).length c2), (6, vi (form 8 l)), (7, .slice a3 (txts l).length c3), (8, vi (tform l)), (9, .pointer (some ⟨P, 0, none⟩)), (10, .pointer (some ⟨Qb, 0, none⟩)), (11, .pointer (some ⟨Sb, 0, none⟩)), (12, vi i)])
    (fun i w' => i ≤ l.length / 4 ∧ Bk w' P 57 [vs (l.drop (4 * 1 * i))] ∧ Bk w' Qb 57 [vs l] ∧ Bk w' Sb 57 [vs l] ∧ Chg (fun b => P ≤ b) w6 w') (fun i => l.length / 4 - i) 0 ⟨rfl, rfl, rfl, rfl, rfl, rfl, rfl, rfl, rfl, rfl, rfl, trivial⟩ ⟨Nat.zero_le _, p6, q6, s6, Chg.refl _ _⟩ ?_
  rintro i G w' ⟨hi, p7, q7, s7, c7⟩
  clear p6 q6 s6
  simp only [upds]
  (repeat' (first | refine Wl.moveE (by conv => { lhs; whnf }) ?_ | refine Wl.lenStr rfl ?_ | refine Wc.seq ?_ | refine Wc.region ?_))
  refine Wl.quoW rfl rfl (by omega) ?_
  rw [e4]
  (repeat' (first | refine Wl.moveE (by conv => { lhs; whnf }) ?_ | refine Wl.assignE (by conv => { lhs; whnf }) ?_ | refine Wl.nil ?_ | refine Qseq.normal ?_ | refine Wc.seq ?_ | refine Wc.region ?_ | refine Wc.block ?_ | refine Wc.skip ?_ | refine Wc.exit ?_ | refine Qseq.exit ?_ | refine Qblk.hit ?_ | refine Qloop.exit ?_ | refine Wc.condT rfl ?_ | refine Wc.condF rfl ?_ | refine Wl.lss rfl rfl (fun _ => ?_) (fun _ => ?_)))
  · have hi4 : i < l.length / 4 := by omega
    refine Wl.call (Cell_spec p7) rfl ?_
    rintro _ w8 ⟨rfl, p8, c8⟩
    have hw := e41 i hi4
    rw [show ((1 : Nat) : Int) = 1 from rfl] at hw
    rw [hw] at p8 ⊢
    have hn := number_lt ((l.drop (4 * 1 * i)).take (4 * 1))
    have hn2 : 256 ^ ((l.drop (4 * 1 * i)).take (4 * 1)).length ≤ 256 ^ 4 := pow_le _ _ (by simp; omega)
    have hn3 : (256 : Nat) ^ 4 = 4294967296 := by decide
    have hwr : IntKind.u32.wrap ((number ((l.drop (4 * 1 * i)).take (4 * 1)) : Nat) : Int) = ((number ((l.drop (4 * 1 * i)).take (4 * 1)) : Nat) : Int) := wrap_u rfl (by omega) (by simp only [IntKind.bits]; omega)
    rw [hwr]
    have q8 := q7.chg c8 (by omega)
    have s8 := s7.chg c8 (by omega)
    have c68 : Chg (fun b => P ≤ b) w6 w8 := Chg.trans c7 c8 fun k _ e => by omega
    (repeat' (first | refine Wl.moveE (by conv => { lhs; whnf }) ?_ | refine Wl.assignE (by conv => { lhs; whnf }) ?_ | refine Wl.nil ?_ | refine Wl.extract rfl rfl ?_ | refine Wl.guardY rfl rfl ?_ | refine Wl.guardN rfl rfl ?_ | refine Wl.pickFE rfl (by conv => { lhs; whnf }) ?_ | refine Qseq.normal ?_ | refine Wc.seq ?_ | refine Wc.region ?_ | refine Wc.skip ?_ | refine Qblk.normal ?_ | refine Wc.condF rfl ?_ | refine Wl.add rfl rfl (by omega) (by omega) ?_ | refine Wl.eql rfl rfl (fun _ => ?_) (fun _ => ?_) | (refine Wl.neq rfl rfl (fun _ => ?_) (fun _ => ?_) <;> (first | (exfalso; contradiction) | skip))))
    · have h0 : form 4 l = 0 := by assumption
      have hnm : nums 4 l = pieces 4 l := by
        unfold form at h0
        split at h0
        · exact (form_ok (by assumption)).2
        · cases h0
      refine Wl.idxAddrV (y := ((number ((l.drop (4 * 1 * i)).take (4 * 1)) : Nat) : Int)) (r1.keep (stable_one _) (kp c68)) rfl rfl (by omega) (by rw [hnm, Int.toNat_natCast]; exact pieces_get hi4) fun b o hc => ?_
      (repeat' (refine Wl.guardY rfl rfl ?_))
      refine Wl.load1 rfl hc ?_
      (repeat' (first | refine Wl.moveE (by conv => { lhs; whnf }) ?_ | refine Wl.assignE (by conv => { lhs; whnf }) ?_ | refine Wl.nil ?_ | refine Wl.guardY rfl rfl ?_ | refine Wl.pickTE rfl (by conv => { lhs; whnf }) ?_ | refine Wl.pickFE rfl (by conv => { lhs; whnf }) ?_ | refine Qseq.normal ?_ | refine Wc.region ?_ | refine Wc.skip ?_ | refine Qblk.normal ?_ | refine Wc.condF rfl ?_ | refine Wl.add rfl rfl (by omega) (by omega) ?_ | (refine Wl.neq rfl rfl (fun _ => ?_) (fun _ => ?_) <;> (first | (exfalso; omega) | skip))))
      exact Qloop.normal (i + 1) ⟨rfl, rfl, rfl, rfl, rfl, rfl, rfl, rfl, rfl, rfl, rfl, trivial⟩ ⟨by omega, p8, q8, s8, c68⟩ (by omega)
    · exact Qloop.normal (i + 1) ⟨rfl, rfl, rfl, rfl, rfl, rfl, rfl, rfl, rfl, rfl, rfl, trivial⟩ ⟨by omega, p8, q8, s8, c68⟩ (by omega)
  have hi4 : i = l.length / 4 := by omega
  subst hi4
  obtain ⟨LP, hLP⟩ : ∃ LP, LP = l.drop (4 * 1 * (l.length / 4)) := ⟨_, rfl⟩
  have hLPw := wide_end (l := l) 1 (.inl rfl)
  have hLPl := end_len (l := l) 4
  rw [show 4 * 1 = 4 from rfl] at hLPw hLP
  rw [← hLP] at p7 hLPw hLPl
  skip
  refine Wc.loop (σ := Nat) (fun i => [(0, vs l), (3, .slice a1 (nums 4 l).length c1), (4, vi (form 4 l)), (5, .slice a2 (nums 8 l).length c2), (6, vi (form 8 l)), (7, .slice a3 (txts l).length c3), (8, vi (tform l)), (9, .pointer (some ⟨P, 0, none⟩)), (10, .pointer (some ⟨Qb, 0, none⟩)), (11, .pointer (some ⟨Sb, 0, none⟩)), (15, vi i)])
    (fun i w' => i ≤ l.length / 8 ∧ Bk w' P 57 [vs LP] ∧ Bk w' Qb 57 [vs (l.drop (4 * 2 * i))] ∧ Bk w' Sb 57 [vs l] ∧ Chg (fun b => P ≤ b) w6 w') (fun i => l.length / 8 - i) 0 ⟨rfl, rfl, rfl, rfl, rfl, rfl, rfl, rfl, rfl, rfl, rfl, trivial⟩ ⟨Nat.zero_le _, p7, q7, s7, c7⟩ ?_
  clear p7 q7 s7 c7 w'
  rintro i G w' ⟨hi, p7, q7, s7, c7⟩
  simp only [upds]
  (repeat' (first | refine Wl.moveE (by conv => { lhs; whnf }) ?_ | refine Wl.lenStr rfl ?_ | refine Wc.seq ?_ | refine Wc.region ?_))
  refine Wl.quoW rfl rfl (by omega) ?_
  rw [e8]
  (repeat' (first | refine Wl.moveE (by conv => { lhs; whnf }) ?_ | refine Wl.assignE (by conv => { lhs; whnf }) ?_ | refine Wl.nil ?_ | refine Qseq.normal ?_ | refine Wc.seq ?_ | refine Wc.region ?_ | refine Wc.block ?_ | refine Wc.skip ?_ | refine Wc.exit ?_ | refine Qseq.exit ?_ | refine Qblk.hit ?_ | refine Qloop.exit ?_ | refine Wc.condT rfl ?_ | refine Wc.condF rfl ?_ | refine Wl.lss rfl rfl (fun _ => ?_) (fun _ => ?_)))
  · have hi4 : i < l.length / 8 := by omega
    refine Wl.call (Wide_spec (n := 2) q7) rfl ?_
    rintro _ w8 ⟨rfl, q8, c8⟩
    have hw := e42 i hi4
    rw [show ((2 : Nat) : Int) = 2 from rfl] at hw
    rw [hw] at q8 ⊢
    have p8 := p7.chg c8 (by omega)
    have s8 := s7.chg c8 (by omega)
    have c68 : Chg (fun b => P ≤ b) w6 w8 := Chg.trans c7 c8 fun k _ e => by omega
    (repeat' (first | refine Wl.moveE (by conv => { lhs; whnf }) ?_ | refine Wl.assignE (by conv => { lhs; whnf }) ?_ | refine Wl.nil ?_ | refine Wl.extract rfl rfl ?_ | refine Wl.guardY rfl rfl ?_ | refine Wl.guardN rfl rfl ?_ | refine Wl.pickFE rfl (by conv => { lhs; whnf }) ?_ | refine Qseq.normal ?_ | refine Wc.seq ?_ | refine Wc.region ?_ | refine Wc.skip ?_ | refine Qblk.normal ?_ | refine Wc.condF rfl ?_ | refine Wl.add rfl rfl (by omega) (by omega) ?_ | refine Wl.eql rfl rfl (fun _ => ?_) (fun _ => ?_) | (refine Wl.neq rfl rfl (fun _ => ?_) (fun _ => ?_) <;> (first | (exfalso; contradiction) | skip))))
    · have h0 : form 8 l = 0 := by assumption
      have hnm : nums 8 l = pieces 8 l := by
        unfold form at h0
        split at h0
        · exact (form_ok (by assumption)).2
        · cases h0
      refine Wl.idxAddrV (y := ((number ((l.drop (4 * 2 * i)).take (4 * 2)) : Nat) : Int)) (r2.keep (stable_one _) (kp c68)) rfl rfl (by omega) (by rw [hnm, Int.toNat_natCast]; exact pieces_get hi4) fun b o hc => ?_
      (repeat' (refine Wl.guardY rfl rfl ?_))
      refine Wl.load1 rfl hc ?_
      (repeat' (first | refine Wl.moveE (by conv => { lhs; whnf }) ?_ | refine Wl.assignE (by conv => { lhs; whnf }) ?_ | refine Wl.nil ?_ | refine Wl.guardY rfl rfl ?_ | refine Wl.pickTE rfl (by conv => { lhs; whnf }) ?_ | refine Wl.pickFE rfl (by conv => { lhs; whnf }) ?_ | refine Qseq.normal ?_ | refine Wc.region ?_ | refine Wc.skip ?_ | refine Qblk.normal ?_ | refine Wc.condF rfl ?_ | refine Wl.add rfl rfl (by omega) (by omega) ?_ | (refine Wl.neq rfl rfl (fun _ => ?_) (fun _ => ?_) <;> (first | (exfalso; omega) | skip))))
      exact Qloop.normal (i + 1) ⟨rfl, rfl, rfl, rfl, rfl, rfl, rfl, rfl, rfl, rfl, rfl, trivial⟩ ⟨by omega, p8, q8, s8, c68⟩ (by omega)
    · exact Qloop.normal (i + 1) ⟨rfl, rfl, rfl, rfl, rfl, rfl, rfl, rfl, rfl, rfl, rfl, trivial⟩ ⟨by omega, p8, q8, s8, c68⟩ (by omega)
  have hi8 : i = l.length / 8 := by omega
  subst hi8
  obtain ⟨LQ, hLQ⟩ : ∃ LQ, LQ = l.drop (4 * 2 * (l.length / 8)) := ⟨_, rfl⟩
  have hLQw := wide_end (l := l) 2 (.inr rfl)
  have hLQl := end_len (l := l) 8
  rw [show 4 * 2 = 8 from rfl] at hLQw hLQ
  rw [← hLQ] at q7 hLQw hLQl
  skip
  refine Wc.loop (σ := Nat × List UInt8) (fun i => [(0, vs l), (3, .slice a1 (nums 4 l).length c1), (4, vi (form 4 l)), (5, .slice a2 (nums 8 l).length c2), (6, vi (form 8 l)), (7, .slice a3 (txts l).length c3), (8, vi (tform l)), (9, .pointer (some ⟨P, 0, none⟩)), (10, .pointer (some ⟨Qb, 0, none⟩)), (11, .pointer (some ⟨Sb, 0, none⟩)), (18, vi i.1)])
    (fun i w' => (tform l = 0 → i.1 ≤ (txts l).length ∧ (cutS i.2).1 = (txts l).drop i.1 ∧ (cutS i.2).2 = []) ∧ i.2.length ≤ l.length ∧ Bk w' P 57 [vs LP] ∧ Bk w' Qb 57 [vs LQ] ∧ Bk w' Sb 57 [vs i.2] ∧ Chg (fun b => P ≤ b) w6 w') (fun i => (txts l).length - i.1) (0, l) ⟨rfl, rfl, rfl, rfl, rfl, rfl, rfl, rfl, rfl, rfl, rfl, trivial⟩ ⟨fun h => ⟨Nat.zero_le _, by rw [(txts_ok h).1]; rfl, (txts_ok h).2⟩, Nat.le_refl _, p7, q7, s7, c7⟩ ?_
  clear p7 q7 s7 c7 w'
  rintro ⟨i, R⟩ G w' ⟨hR, hRl, p7, q7, s7, c7⟩
  dsimp only at hR hRl s7
  simp only [upds]
  (repeat' (first | refine Wl.moveE (by conv => { lhs; whnf }) ?_ | refine Wl.nil ?_ | refine Wl.guardY rfl rfl ?_ | refine Wl.guardN rfl rfl ?_ | refine Wl.pickTE rfl (by conv => { lhs; whnf }) ?_ | refine Wl.pickFE rfl (by conv => { lhs; whnf }) ?_ | refine Wl.lenS rfl ?_ | refine Qseq.normal ?_ | refine Wc.seq ?_ | refine Wc.region ?_ | refine Wc.block ?_ | refine Wc.skip ?_ | refine Wc.exit ?_ | refine Qseq.exit ?_ | refine Qblk.hit ?_ | refine Qloop.exit ?_ | refine Wc.condT rfl ?_ | refine Wc.condF rfl ?_ | refine Wl.lss rfl rfl (fun _ => ?_) (fun _ => ?_) | refine Wl.eql rfl rfl (fun _ => ?_) (fun _ => ?_)))
  · have h0 : tform l = 0 := by assumption
    obtain ⟨h1, h2, h3⟩ := hR h0
    have hi2 : i < (txts l).length := by omega
    obtain ⟨t, ht⟩ := get_lt' (txts l) (k := i) hi2
    rw [show (txts l).drop i = t :: (txts l).drop (i + 1) by
      obtain ⟨g1, g2⟩ := List.getElem?_eq_some_iff.1 ht
      rw [List.drop_eq_getElem_cons g1, g2]] at h2
    obtain ⟨R', e1, e2, e3, e4'⟩ := text_cut h2
    refine Wl.call (Text_spec s7 (by omega)) rfl ?_
    rintro _ w8 ⟨rfl, s8, c8⟩
    rw [e1] at s8 ⊢
    have p8 := p7.chg c8 (by omega)
    have q8 := q7.chg c8 (by omega)
    have c68 : Chg (fun b => P ≤ b) w6 w8 := Chg.trans c7 c8 fun k _ e => by omega
    (repeat' (first | refine Wl.moveE (by conv => { lhs; whnf }) ?_ | refine Wl.assignE (by conv => { lhs; whnf }) ?_ | refine Wl.nil ?_ | refine Wl.extract rfl rfl ?_ | refine Wl.guardY rfl rfl ?_ | refine Qseq.normal ?_ | refine Wc.seq ?_ | refine Wc.region ?_ | (refine Wl.neq rfl rfl (fun _ => ?_) (fun _ => ?_) <;> (first | (exfalso; contradiction) | skip))))
    refine Wl.idxAddrV (y := t) (r3.keep (stable_one _) (kp c68)) rfl rfl (by omega) (by rw [Int.toNat_natCast]; exact ht) fun b o hc => ?_
    (repeat' (refine Wl.guardY rfl rfl ?_))
    refine Wl.load1 rfl hc ?_
    (repeat' (first | refine Wl.moveE (by conv => { lhs; whnf }) ?_ | refine Wl.assignE (by conv => { lhs; whnf }) ?_ | refine Wl.nil ?_ | refine Wl.guardY rfl rfl ?_ | refine Wl.pickFE rfl (by conv => { lhs; whnf }) ?_ | refine Qseq.normal ?_ | refine Wc.region ?_ | refine Wc.skip ?_ | refine Qblk.normal ?_ | refine Wc.condF rfl ?_ | refine Wl.add rfl rfl (by omega) (by omega) ?_ | (refine Wl.sneq rfl rfl (fun _ => ?_) (fun _ => ?_) <;> (first | (exfalso; contradiction) | skip))))
    exact Qloop.normal (i + 1, R') ⟨rfl, rfl, rfl, rfl, rfl, rfl, rfl, rfl, rfl, rfl, rfl, trivial⟩ ⟨fun _ => ⟨hi2, e2, by rw [e3]; exact h3⟩, by dsimp only; omega, p8, q8, s8, c68⟩ (by dsimp only; omega)
  all_goals
    refine Wl.call (Cell_spec p7) rfl ?_
    rintro _ w8 ⟨rfl, p8, c8⟩
    rw [show ((1 : Nat) : Int) = 1 from rfl] at hLPw
    rw [hLPw] at p8 ⊢
    have q8 := q7.chg c8 (by omega)
    have s8 := s7.chg c8 (by omega)
    (repeat' (first | refine Wl.moveE (by conv => { lhs; whnf }) ?_ | refine Wl.assignE (by conv => { lhs; whnf }) ?_ | refine Wl.nil ?_ | refine Wl.extract rfl rfl ?_ | refine Qseq.normal ?_ | refine Wc.seq ?_ | refine Wc.region ?_))
    refine Wl.call (Wide_spec (n := 2) q8) rfl ?_
    rintro _ w9 ⟨rfl, q9, c9⟩
    rw [show ((2 : Nat) : Int) = 2 from rfl] at hLQw
    rw [hLQw] at q9 ⊢
    have p9 := p8.chg c9 (by omega)
    have s9 := s8.chg c9 (by omega)
    (repeat' (first | refine Wl.moveE (by conv => { lhs; whnf }) ?_ | refine Wl.assignE (by conv => { lhs; whnf }) ?_ | refine Wl.nil ?_ | refine Wl.extract rfl rfl ?_ | refine Qseq.normal ?_ | refine Wc.seq ?_ | refine Wc.region ?_))
    refine Wl.call (Text_spec s9 (by omega)) rfl ?_
    rintro _ w10 ⟨rfl, s10, c10⟩
    have p10 := p9.chg c10 (by omega)
    have q10 := q9.chg c10 (by omega)
    have cz : New w w10 := Chg.trans n06 (Chg.trans (Chg.trans (Chg.trans c7 c8 (M := fun b => P ≤ b) fun k _ e => by omega) c9 (M := fun b => P ≤ b) fun k _ e => by omega) c10 (M := fun b => P ≤ b) fun k _ e => by omega) fun k hk e => by omega
  · obtain ⟨_, h2, h3⟩ := hR (by assumption)
    have hi3 : (txts l).length ≤ i := by omega
    rw [List.drop_eq_nil_of_le hi3] at h2
    have hR0 : R = [] := by rw [← cutS_join R, h2, h3]; rfl
    subst hR0
    rw [text_nil] at s10 ⊢
    (repeat' (first | refine Wl.moveE (by conv => { lhs; whnf }) ?_ | refine Wl.assignE (by conv => { lhs; whnf }) ?_ | refine Wl.nil ?_ | refine Wl.extract rfl rfl ?_ | refine Wl.guardY rfl rfl ?_ | refine Wl.pickTE rfl (by conv => { lhs; whnf }) ?_ | refine Qseq.normal ?_ | refine Wc.seq ?_ | refine Wc.region ?_ | (refine Wl.eql rfl rfl (fun _ => ?_) (fun _ => ?_) <;> (first | (exfalso; contradiction) | skip)) | (refine Wl.neq rfl rfl (fun _ => ?_) (fun _ => ?_) <;> (first | (exfalso; omega) | skip))))
    refine Wl.call (LeftR_spec s10) rfl ?_
    rintro _ _ ⟨rfl, rfl⟩
    (repeat' (first | refine Wl.moveE (by conv => { lhs; whnf }) ?_ | refine Wl.guardY rfl rfl ?_ | refine Wl.pickTE rfl (by conv => { lhs; whnf }) ?_ | refine Wl.pickFE rfl (by conv => { lhs; whnf }) ?_ | (refine Wl.eql rfl rfl (fun _ => ?_) (fun _ => ?_) <;> (first | (exfalso; contradiction) | skip))))
    refine Wl.call (LeftR_spec p10) rfl ?_
    rintro _ _ ⟨rfl, rfl⟩
    (repeat' (first | refine Wl.moveE (by conv => { lhs; whnf }) ?_ | refine Wl.guardY rfl rfl ?_ | refine Wl.lenStr rfl ?_))
    refine Wl.remW rfl rfl (by omega) ?_
    rw [show (l.length : Int).tmod 4 = ((l.length % 4 : Nat) : Int) from rfl, hLPl]
    (repeat' (first | refine Wl.moveE (by conv => { lhs; whnf }) ?_ | refine Wl.guardY rfl rfl ?_ | refine Wl.pickTE rfl (by conv => { lhs; whnf }) ?_ | (refine Wl.eql rfl rfl (fun _ => ?_) (fun _ => ?_) <;> (first | (exfalso; omega) | skip))))
    refine Wl.call (LeftR_spec q10) rfl ?_
    rintro _ _ ⟨rfl, rfl⟩
    (repeat' (first | refine Wl.moveE (by conv => { lhs; whnf }) ?_ | refine Wl.guardY rfl rfl ?_ | refine Wl.lenStr rfl ?_))
    refine Wl.remW rfl rfl (by omega) ?_
    rw [show (l.length : Int).tmod 8 = ((l.length % 8 : Nat) : Int) from rfl, hLQl]
    (repeat' (first | refine Wl.assignE (by conv => { lhs; whnf }) ?_ | refine Wl.nil ?_ | refine Wl.guardY rfl rfl ?_ | refine Wl.pickTE rfl (by conv => { lhs; whnf }) ?_ | refine Qseq.normal ?_ | refine Wc.ret ?_ | (refine Wl.eql rfl rfl (fun _ => ?_) (fun _ => ?_) <;> (first | (exfalso; omega) | skip))))
    exact Qfn.ret1 rfl rfl ⟨_, rfl, rfl, cz⟩
  · (repeat' (first | refine Wl.moveE (by conv => { lhs; whnf }) ?_ | refine Wl.assignE (by conv => { lhs; whnf }) ?_ | refine Wl.nil ?_ | refine Wl.extract rfl rfl ?_ | refine Wl.guardY rfl rfl ?_ | refine Wl.guardN rfl rfl ?_ | refine Wl.guardU rfl ?_ | refine Wl.pickTE rfl (by conv => { lhs; whnf }) ?_ | refine Qseq.normal ?_ | refine Wc.seq ?_ | refine Wc.region ?_ | (refine Wl.eql rfl rfl (fun _ => ?_) (fun _ => ?_) <;> (first | (exfalso; contradiction) | skip)) | (refine Wl.neq rfl rfl (fun _ => ?_) (fun _ => ?_) <;> (first | (exfalso; omega) | skip))))
    refine Wl.call (LeftR_spec p10) rfl ?_
    rintro _ _ ⟨rfl, rfl⟩
    (repeat' (first | refine Wl.moveE (by conv => { lhs; whnf }) ?_ | refine Wl.guardY rfl rfl ?_ | refine Wl.lenStr rfl ?_))
    refine Wl.remW rfl rfl (by omega) ?_
    rw [show (l.length : Int).tmod 4 = ((l.length % 4 : Nat) : Int) from rfl, hLPl]
    (repeat' (first | refine Wl.moveE (by conv => { lhs; whnf }) ?_ | refine Wl.guardY rfl rfl ?_ | refine Wl.pickTE rfl (by conv => { lhs; whnf }) ?_ | (refine Wl.eql rfl rfl (fun _ => ?_) (fun _ => ?_) <;> (first | (exfalso; omega) | skip))))
    refine Wl.call (LeftR_spec q10) rfl ?_
    rintro _ _ ⟨rfl, rfl⟩
    (repeat' (first | refine Wl.moveE (by conv => { lhs; whnf }) ?_ | refine Wl.guardY rfl rfl ?_ | refine Wl.lenStr rfl ?_))
    refine Wl.remW rfl rfl (by omega) ?_
    rw [show (l.length : Int).tmod 8 = ((l.length % 8 : Nat) : Int) from rfl, hLQl]
    (repeat' (first | refine Wl.assignE (by conv => { lhs; whnf }) ?_ | refine Wl.nil ?_ | refine Wl.guardY rfl rfl ?_ | refine Wl.pickTE rfl (by conv => { lhs; whnf }) ?_ | refine Qseq.normal ?_ | refine Wc.ret ?_ | (refine Wl.eql rfl rfl (fun _ => ?_) (fun _ => ?_) <;> (first | (exfalso; omega) | skip))))
    exact Qfn.ret1 rfl rfl ⟨_, rfl, rfl, cz⟩
end Go.Proofs.YthppadlcejpgbaaGreatDoor

namespace Go.Proofs.YthppadlcejpgbaaGreatDoor
open Go Wk
open Go.RowKit (Below)

theorem take_succ_eq {α : Type} {xs ys : List α} {k : Nat} {x y : α} (h : xs.take k = ys.take k) (hx : xs[k]? = some x) (hy : ys[k]? = some y) (e : x = y) : xs.take (k + 1) = ys.take (k + 1) := by
  rw [List.take_add_one, List.take_add_one, hx, hy, h, e]
theorem get_of_lt {α : Type} (xs : List α) {k : Nat} (h : k < xs.length) : ∃ x, xs[k]? = some x := ⟨xs[k], List.getElem?_eq_getElem h⟩

theorem thirties_spec {Pb Pb' : Nat → Prop} {w : World} {v v' : Value} {xs ys : List Int} (h : RdS (one (fun x : Int => Value.int .u32 x)) 1 Pb w v xs) (h' : RdS (one (fun x : Int => Value.int .u32 x)) 1 Pb' w v' ys) :
    Calls Tryz.prog 23 #[v, v'] w (Ret fun r w' => r = .bool (decide (xs = ys)) ∧ New w w') := by
  obtain ⟨a, cap, rfl, hc1, hc2⟩ := h.form
  obtain ⟨a', cap', rfl, hc1', hc2'⟩ := h'.form
  unfold maxLen at hc2 hc2'
  refine calls_of_Wc (n := 26) Tryz.func23 rfl rfl rfl ?_
  (repeat' (first | refine Wl.moveE (by conv => { lhs; whnf }) ?_ | refine Wl.assignE (by conv => { lhs; whnf }) ?_ | refine Wl.nil ?_ | refine Wl.lenS rfl ?_ | refine Qseq.normal ?_ | refine Wc.seq ?_ | refine Wc.region ?_ | refine Wc.block ?_ | refine Wc.skip ?_ | refine Wc.ret ?_ | refine Qseq.ret ?_ | refine Wc.condT rfl ?_ | refine Wc.condF rfl ?_ | refine Wl.neq rfl rfl (fun _ => ?_) (fun _ => ?_)))
  · refine Qfn.ret1 rfl rfl ⟨_, rfl, ?_, Chg.refl _ _⟩
    rw [decide_eq_false (by intro e; subst e; omega)]; rfl
  · have hlen : xs.length = ys.length := by omega
    refine Wc.loop (σ := Nat) (fun k => [(0, .slice a xs.length cap), (1, .slice a' ys.length cap'), (5, vi k)]) (fun k w' => k ≤ xs.length ∧ xs.take k = ys.take k ∧ New w w') (fun k => xs.length - k) 0 ⟨rfl, rfl, rfl, trivial⟩ ⟨Nat.zero_le _, by simp, Chg.refl _ _⟩ ?_
    rintro k G w1 ⟨hk, ht, hw1⟩
    simp only [upds]
    (repeat' (first | refine Wl.moveE (by conv => { lhs; whnf }) ?_ | refine Wl.assignE (by conv => { lhs; whnf }) ?_ | refine Wl.nil ?_ | refine Wl.lenS rfl ?_ | refine Qseq.normal ?_ | refine Wc.seq ?_ | refine Wc.region ?_ | refine Wc.block ?_ | refine Wc.skip ?_ | refine Wc.exit ?_ | refine Wc.ret ?_ | refine Qseq.exit ?_ | refine Qblk.hit ?_ | refine Qloop.exit ?_ | refine Wc.condT rfl ?_ | refine Wc.condF rfl ?_ | refine Wl.lss rfl rfl (fun _ => ?_) (fun _ => ?_)))
    · obtain ⟨x, hx⟩ := get_of_lt xs (k := k) (by omega)
      obtain ⟨y, hy⟩ := get_of_lt ys (k := k) (by omega)
      refine Wc.regionN rfl (by kernel_rfl) ?_
      (repeat' (refine Wq.moveE (by conv => { lhs; whnf }) ?_))
      refine Wq.idxLoadV (fun w2 h2 => h.keep (stable_one _) (New.keep (New.trans hw1 h2))) rfl rfl (by omega) hx rfl rfl ⟨w1, Chg.refl _ _⟩ fun p => ?_
      (repeat' (refine Wq.moveE (by conv => { lhs; whnf }) ?_))
      refine Wq.idxLoadV (fun w2 h2 => h'.keep (stable_one _) (New.keep (New.trans hw1 h2))) rfl rfl (by omega) hy rfl rfl ⟨w1, Chg.refl _ _⟩ fun p => ?_
      (repeat' (first | refine Wq.nil ?_ | refine Wq.neq rfl rfl (fun _ => ?_) (fun _ => ?_)))
      · intro w2 h2
        (repeat' (first | refine Wl.assignE (by conv => { lhs; whnf }) ?_ | refine Wl.nil ?_ | refine Qseq.normal ?_ | refine Wc.seq ?_ | refine Wc.region ?_ | refine Wc.ret ?_ | refine Qseq.ret ?_ | refine Qblk.ret ?_ | refine Qloop.ret ?_ | refine Wc.condT rfl ?_))
        refine Qfn.ret1 rfl rfl ⟨_, rfl, ?_, New.trans hw1 h2⟩
        rw [decide_eq_false (by rintro rfl; rw [hx] at hy; cases hy; contradiction)]; rfl
      · intro w2 h2
        (repeat' (first | refine Wl.moveE (by conv => { lhs; whnf }) ?_ | refine Wl.assignE (by conv => { lhs; whnf }) ?_ | refine Wl.nil ?_ | refine Qseq.normal ?_ | refine Wc.region ?_ | refine Wc.skip ?_ | refine Qblk.normal ?_ | refine Wc.condF rfl ?_ | refine Wl.add rfl rfl (by omega) (by omega) ?_))
        exact Qloop.normal (k + 1) ⟨rfl, rfl, rfl, trivial⟩ ⟨by omega, take_succ_eq ht hx hy (by assumption), New.trans hw1 h2⟩ (by omega)
    · refine Qfn.ret1 rfl rfl ⟨_, rfl, ?_, hw1⟩
      have : k = xs.length := by omega
      rw [this, List.take_length, hlen, List.take_length] at ht
      rw [decide_eq_true ht]; rfl

theorem sixties_spec {Pb Pb' : Nat → Prop} {w : World} {v v' : Value} {xs ys : List Int} (h : RdS (one (fun x : Int => Value.int .u64 x)) 1 Pb w v xs) (h' : RdS (one (fun x : Int => Value.int .u64 x)) 1 Pb' w v' ys) :
    Calls Tryz.prog 24 #[v, v'] w (Ret fun r w' => r = .bool (decide (xs = ys)) ∧ New w w') := by
  obtain ⟨a, cap, rfl, hc1, hc2⟩ := h.form
  obtain ⟨a', cap', rfl, hc1', hc2'⟩ := h'.form
  unfold maxLen at hc2 hc2'
  refine calls_of_Wc (n := 26) Tryz.func24 rfl rfl rfl ?_
  (repeat' (first | refine Wl.moveE (by conv => { lhs; whnf }) ?_ | refine Wl.assignE (by conv => { lhs; whnf }) ?_ | refine Wl.nil ?_ | refine Wl.lenS rfl ?_ | refine Qseq.normal ?_ | refine Wc.seq ?_ | refine Wc.region ?_ | refine Wc.block ?_ | refine Wc.skip ?_ | refine Wc.ret ?_ | refine Qseq.ret ?_ | refine Wc.condT rfl ?_ | refine Wc.condF rfl ?_ | refine Wl.neq rfl rfl (fun _ => ?_) (fun _ => ?_)))
  · refine Qfn.ret1 rfl rfl ⟨_, rfl, ?_, Chg.refl _ _⟩
    rw [decide_eq_false (by intro e; subst e; omega)]; rfl
  · have hlen : xs.length = ys.length := by omega
    refine Wc.loop (σ := Nat) (fun k => [(0, .slice a xs.length cap), (1, .slice a' ys.length cap'), (5, vi k)]) (fun k w' => k ≤ xs.length ∧ xs.take k = ys.take k ∧ New w w') (fun k => xs.length - k) 0 ⟨rfl, rfl, rfl, trivial⟩ ⟨Nat.zero_le _, by simp, Chg.refl _ _⟩ ?_
    rintro k G w1 ⟨hk, ht, hw1⟩
    simp only [upds]
    (repeat' (first | refine Wl.moveE (by conv => { lhs; whnf }) ?_ | refine Wl.assignE (by conv => { lhs; whnf }) ?_ | refine Wl.nil ?_ | refine Wl.lenS rfl ?_ | refine Qseq.normal ?_ | refine Wc.seq ?_ | refine Wc.region ?_ | refine Wc.block ?_ | refine Wc.skip ?_ | refine Wc.exit ?_ | refine Wc.ret ?_ | refine Qseq.exit ?_ | refine Qblk.hit ?_ | refine Qloop.exit ?_ | refine Wc.condT rfl ?_ | refine Wc.condF rfl ?_ | refine Wl.lss rfl rfl (fun _ => ?_) (fun _ => ?_)))
    · obtain ⟨x, hx⟩ := get_of_lt xs (k := k) (by omega)
      obtain ⟨y, hy⟩ := get_of_lt ys (k := k) (by omega)
      refine Wc.regionN rfl (by kernel_rfl) ?_
      (repeat' (refine Wq.moveE (by conv => { lhs; whnf }) ?_))
      refine Wq.idxLoadV (fun w2 h2 => h.keep (stable_one _) (New.keep (New.trans hw1 h2))) rfl rfl (by omega) hx rfl rfl ⟨w1, Chg.refl _ _⟩ fun p => ?_
      (repeat' (refine Wq.moveE (by conv => { lhs; whnf }) ?_))
      refine Wq.idxLoadV (fun w2 h2 => h'.keep (stable_one _) (New.keep (New.trans hw1 h2))) rfl rfl (by omega) hy rfl rfl ⟨w1, Chg.refl _ _⟩ fun p => ?_
      (repeat' (first | refine Wq.nil ?_ | refine Wq.neq rfl rfl (fun _ => ?_) (fun _ => ?_)))
      · intro w2 h2
        (repeat' (first | refine Wl.assignE (by conv => { lhs; whnf }) ?_ | refine Wl.nil ?_ | refine Qseq.normal ?_ | refine Wc.seq ?_ | refine Wc.region ?_ | refine Wc.ret ?_ | refine Qseq.ret ?_ | refine Qblk.ret ?_ | refine Qloop.ret ?_ | refine Wc.condT rfl ?_))
        refine Qfn.ret1 rfl rfl ⟨_, rfl, ?_, New.trans hw1 h2⟩
        rw [decide_eq_false (by rintro rfl; rw [hx] at hy; cases hy; contradiction)]; rfl
      · intro w2 h2
        (repeat' (first | refine Wl.moveE (by conv => { lhs; whnf }) ?_ | refine Wl.assignE (by conv => { lhs; whnf }) ?_ | refine Wl.nil ?_ | refine Qseq.normal ?_ | refine Wc.region ?_ | refine Wc.skip ?_ | refine Qblk.normal ?_ | refine Wc.condF rfl ?_ | refine Wl.add rfl rfl (by omega) (by omega) ?_))
        exact Qloop.normal (k + 1) ⟨rfl, rfl, rfl, trivial⟩ ⟨by omega, take_succ_eq ht hx hy (by assumption), New.trans hw1 h2⟩ (by omega)
    · refine Qfn.ret1 rfl rfl ⟨_, rfl, ?_, hw1⟩
      have : k = xs.length := by omega
      rw [this, List.take_length, hlen, List.take_length] at ht
      rw [decide_eq_true ht]; rfl

theorem texts_spec {Pb Pb' : Nat → Prop} {w : World} {v v' : Value} {xs ys : List (List UInt8)} (h : RdS (one vs) 1 Pb w v xs) (h' : RdS (one vs) 1 Pb' w v' ys) :
    Calls Tryz.prog 26 #[v, v'] w (Ret fun r w' => r = .bool (decide (xs = ys)) ∧ New w w') := by
  obtain ⟨a, cap, rfl, hc1, hc2⟩ := h.form
  obtain ⟨a', cap', rfl, hc1', hc2'⟩ := h'.form
  unfold maxLen at hc2 hc2'
  refine calls_of_Wc (n := 26) Tryz.func26 rfl rfl rfl ?_
  (repeat' (first | refine Wl.moveE (by conv => { lhs; whnf }) ?_ | refine Wl.assignE (by conv => { lhs; whnf }) ?_ | refine Wl.nil ?_ | refine Wl.lenS rfl ?_ | refine Qseq.normal ?_ | refine Wc.seq ?_ | refine Wc.region ?_ | refine Wc.block ?_ | refine Wc.skip ?_ | refine Wc.ret ?_ | refine Qseq.ret ?_ | refine Wc.condT rfl ?_ | refine Wc.condF rfl ?_ | refine Wl.neq rfl rfl (fun _ => ?_) (fun _ => ?_)))
  · refine Qfn.ret1 rfl rfl ⟨_, rfl, ?_, Chg.refl _ _⟩
    rw [decide_eq_false (by intro e; subst e; omega)]; rfl
  · have hlen : xs.length = ys.length := by omega
    refine Wc.loop (σ := Nat) (fun k => [(0, .slice a xs.length cap), (1, .slice a' ys.length cap'), (5, vi k)]) (fun k w' => k ≤ xs.length ∧ xs.take k = ys.take k ∧ New w w') (fun k => xs.length - k) 0 ⟨rfl, rfl, rfl, trivial⟩ ⟨Nat.zero_le _, by simp, Chg.refl _ _⟩ ?_
    rintro k G w1 ⟨hk, ht, hw1⟩
    simp only [upds]
    (repeat' (first | refine Wl.moveE (by conv => { lhs; whnf }) ?_ | refine Wl.assignE (by conv => { lhs; whnf }) ?_ | refine Wl.nil ?_ | refine Wl.lenS rfl ?_ | refine Qseq.normal ?_ | refine Wc.seq ?_ | refine Wc.region ?_ | refine Wc.block ?_ | refine Wc.skip ?_ | refine Wc.exit ?_ | refine Wc.ret ?_ | refine Qseq.exit ?_ | refine Qblk.hit ?_ | refine Qloop.exit ?_ | refine Wc.condT rfl ?_ | refine Wc.condF rfl ?_ | refine Wl.lss rfl rfl (fun _ => ?_) (fun _ => ?_)))
    · obtain ⟨x, hx⟩ := get_of_lt xs (k := k) (by omega)
      obtain ⟨y, hy⟩ := get_of_lt ys (k := k) (by omega)
      refine Wc.regionN rfl (by kernel_rfl) ?_
      (repeat' (refine Wq.moveE (by conv => { lhs; whnf }) ?_))
      refine Wq.idxLoadV (fun w2 h2 => h.keep (stable_one _) (New.keep (New.trans hw1 h2))) rfl rfl (by omega) hx rfl rfl ⟨w1, Chg.refl _ _⟩ fun p => ?_
      (repeat' (refine Wq.moveE (by conv => { lhs; whnf }) ?_))
      refine Wq.idxLoadV (fun w2 h2 => h'.keep (stable_one _) (New.keep (New.trans hw1 h2))) rfl rfl (by omega) hy rfl rfl ⟨w1, Chg.refl _ _⟩ fun p => ?_
      (repeat' (first | refine Wq.nil ?_ | refine Wq.sneq rfl rfl (fun _ => ?_) (fun _ => ?_)))
      · intro w2 h2
        (repeat' (first | refine Wl.assignE (by conv => { lhs; whnf }) ?_ | refine Wl.nil ?_ | refine Qseq.normal ?_ | refine Wc.seq ?_ | refine Wc.region ?_ | refine Wc.ret ?_ | refine Qseq.ret ?_ | refine Qblk.ret ?_ | refine Qloop.ret ?_ | refine Wc.condT rfl ?_))
        refine Qfn.ret1 rfl rfl ⟨_, rfl, ?_, New.trans hw1 h2⟩
        rw [decide_eq_false (by rintro rfl; rw [hx] at hy; cases hy; contradiction)]; rfl
      · intro w2 h2
        (repeat' (first | refine Wl.moveE (by conv => { lhs; whnf }) ?_ | refine Wl.assignE (by conv => { lhs; whnf }) ?_ | refine Wl.nil ?_ | refine Qseq.normal ?_ | refine Wc.region ?_ | refine Wc.skip ?_ | refine Qblk.normal ?_ | refine Wc.condF rfl ?_ | refine Wl.add rfl rfl (by omega) (by omega) ?_))
        exact Qloop.normal (k + 1) ⟨rfl, rfl, rfl, trivial⟩ ⟨by omega, take_succ_eq ht hx hy (by assumption), New.trans hw1 h2⟩ (by omega)
    · refine Qfn.ret1 rfl rfl ⟨_, rfl, ?_, hw1⟩
      have : k = xs.length := by omega
      rw [this, List.take_length, hlen, List.take_length] at ht
      rw [decide_eq_true ht]; rfl
end Go.Proofs.YthppadlcejpgbaaGreatDoor

namespace Go.Proofs.YthppadlcejpgbaaGreatDoor
open Go Wk
open Go.RowKit (Below)
attribute [local irreducible] Go.Calls

section
variable {P : Program} {n : Nat} {ds : List Deferred} {Q : Po} {F : Fr} {w : World} {ops rest : List Oper} {d : Nat} {ty t t' : TypeId} {pos : String} {aft : Array Edge}
theorem Wk.Wl.bneq {x y : Operand} {a b : Bool} [ht : Und P t .bool] (hx : ev n F x = .bool a) (hy : ev n F y = .bool b) (c : Wl P n ds Q ops rest (upd F d (.bool !(a == b))) w) : Wl P n ds Q ops (⟨some d, .binOp .neq t x y t', ty, pos, aft, none⟩ :: rest) F w := by
  refine Wl.val ?_ c
  have h : (Op.equalIn 10000 t (.bool a) (.bool b)).run P w = .ok (a == b) w := run_equalIn_bool' (P := P) w 9999 t a b ht.h
  have hb : (binOp .neq t (.bool a) (.bool b)).run P w = .ok (.bool !(a == b)) w := by
    simp only [binOp]
    simp [Op.equal, Op.maxDepth, h]
  simp only [execOp, hx, hy, Sem.run_bind, run_eqGuard_bool, Result.andThen_ok, hb, Sem.run_pure]
end
theorem flat_be_len {k : Nat} (xs : List Int) : (xs.flatMap (be k)).length = k * xs.length := flatK_len (be_length k) xs
theorem pieces8_lt {v : List UInt8} : ∀ x ∈ pieces 8 v, 0 ≤ x ∧ x < 2 ^ 64 := by
  intro x hx
  unfold pieces at hx
  obtain ⟨i, _, rfl⟩ := List.mem_map.1 hx
  have h1 := number_lt ((v.drop (8 * i)).take 8)
  have h2 : 256 ^ ((v.drop (8 * i)).take 8).length ≤ 256 ^ 8 := pow_le _ _ (by simp; omega)
  have h3 : (256 : Nat) ^ 8 = 18446744073709551616 := by decide
  omega
theorem txts_flat {v : List UInt8} (h : tform v = 0) : (txts v).flatMap (· ++ [0]) = v := by
  have hof := of_txts h
  unfold ofTexts at hof
  split at hof
  · simp at hof
  · rw [Prod.mk.injEq] at hof; exact hof.1
set_option maxHeartbeats 8000000 in
theorem back_law {w : World} {l : List UInt8} (hD : DeB w) (hE : ErrV w) (hl : l.length ≤ 1048576)
    {P1 P2 P3 : Nat → Prop} {v1 v2 v3 : Value} {xa xb : List Int} {xl : List (List UInt8)} (r1 : RdS (one u32v) 1 P1 w v1 xa) (b1 : ∀ x ∈ xa, 0 ≤ x ∧ x < 2 ^ 32) (h1 : xa.length ≤ 1048576)
    (r2 : RdS (one u64v) 1 P2 w v2 xb) (b2 : ∀ x ∈ xb, 0 ≤ x ∧ x < 2 ^ 64) (h2 : xb.length ≤ 1048576) (r3 : RdS (one vs) 1 P3 w v3 xl) (h3 : (xl.flatMap (· ++ [0])).length ≤ 1048576) :
    Calls Tryz.prog 7 #[vs l, v1, v2, v3] w (Ret fun r w' => r = .bool true ∧ New w w') := by
  have hll : l.length ≤ 100000000 := by omega
  have l1 := flat_be_len (k := 4) xa
  have l2 := flat_be_len (k := 8) xb
  obtain ⟨fa, na⟩ := nums_be (k := 4) (by omega) (xs := xa) b1
  obtain ⟨fb, nb⟩ := nums_be (k := 8) (by omega) (xs := xb) b2
  refine calls_of_Wc Tryz.func7 rfl Tryz.ntmps7 rfl ?_
  (repeat' (first | refine Wl.assignE (by conv => { lhs; whnf }) ?_ | refine Wl.nil ?_ | refine Qseq.normal ?_ | refine Wc.seq ?_ | refine Wc.region ?_))
  refine Wl.call (awake_spec hD hE) rfl ?_
  rintro _ w1 ⟨rfl, n1⟩
  (repeat' (first | refine Wl.moveE (by conv => { lhs; whnf }) ?_ | refine Wl.nil ?_ | refine Wl.notB rfl ?_ | refine Qseq.normal ?_ | refine Wc.seq ?_ | refine Wc.region ?_ | refine Wc.skip ?_ | refine Wc.condF rfl ?_))
  refine Wl.call (cOfU32s_spec (r1.keep (stable_one _) n1.keep) b1 (by omega)) rfl ?_
  rintro _ w2 ⟨rfl, n2⟩
  refine Wl.call (cU32s_spec (l := xa.flatMap (be 4)) (by omega)) rfl ?_
  rintro _ w3 ⟨u1, rfl, o1, n3⟩
  rw [na] at o1
  rw [fa]
  have n13 := New.trans n1 (New.trans n2 n3)
  (repeat' (first | refine Wl.moveE (by conv => { lhs; whnf }) ?_ | refine Wl.assignE (by conv => { lhs; whnf }) ?_ | refine Wl.nil ?_ | refine Wl.extract rfl rfl ?_ | refine Qseq.normal ?_ | refine Wc.seq ?_ | refine Wc.region ?_))
  refine Wl.call (cOfU64s_spec (r2.keep (stable_one _) n13.keep) b2 (by omega)) rfl ?_
  rintro _ w4 ⟨rfl, n4⟩
  refine Wl.call (cU64s_spec (l := xb.flatMap (be 8)) (by omega)) rfl ?_
  rintro _ w5 ⟨u2, rfl, o2, n5⟩
  rw [nb] at o2
  rw [fb]
  have n35 := New.trans n4 n5
  have n15 := New.trans n13 n35
  (repeat' (first | refine Wl.moveE (by conv => { lhs; whnf }) ?_ | refine Wl.assignE (by conv => { lhs; whnf }) ?_ | refine Wl.nil ?_ | refine Wl.extract rfl rfl ?_ | refine Wl.guardY rfl rfl ?_ | refine Wl.pickFE rfl (by conv => { lhs; whnf }) ?_ | refine Qseq.normal ?_ | refine Wc.seq ?_ | refine Wc.region ?_ | (refine Wl.neq rfl rfl (fun _ => ?_) (fun _ => ?_) <;> (first | (exfalso; omega) | skip))))
  refine Wl.call (thirties_spec ((o1.rd good32.mo).keep (stable_one _) n35.keep) (r1.keep (stable_one _) n15.keep)) rfl ?_
  rintro _ w6 ⟨rfl, n6⟩
  rw [decide_eq_true rfl]
  (repeat' (first | refine Wl.moveE (by conv => { lhs; whnf }) ?_ | refine Wl.guardY rfl rfl ?_ | refine Wl.pickFE rfl (by conv => { lhs; whnf }) ?_ | refine Wl.notB rfl ?_))
  refine Wl.call (sixties_spec ((o2.rd good64.mo).keep (stable_one _) n6.keep) (r2.keep (stable_one _) (New.trans n15 n6).keep)) rfl ?_
  rintro _ w7 ⟨rfl, n7⟩
  rw [decide_eq_true rfl]
  have n17 := New.trans n15 (New.trans n6 n7)
  clear o1 o2 n1 n2 n3 n13 n4 n5 n35 n15 n6 n7
  (repeat' (first | refine Wl.moveE (by conv => { lhs; whnf }) ?_ | refine Wl.nil ?_ | refine Wl.guardY rfl rfl ?_ | refine Wl.pickFE rfl (by conv => { lhs; whnf }) ?_ | refine Wl.notB rfl ?_ | refine Qseq.normal ?_ | refine Wc.seq ?_ | refine Wc.region ?_ | refine Wc.skip ?_ | refine Wc.condF rfl ?_))
  refine Wl.call (cOfTexts_spec (r3.keep (stable_one _) n17.keep) (by omega)) rfl ?_
  rintro _ w8 ⟨rfl, n8⟩
  have n18 := New.trans n17 n8
  by_cases hof : (ofTexts xl).2 = 0
  · obtain ⟨t1, t2⟩ := txts_of hof
    have hle : (ofTexts xl).1.length ≤ 1048576 := by
      unfold ofTexts
      split
      · simp
      · exact h3
    rw [hof]
    (repeat' (first | refine Wl.moveE (by conv => { lhs; whnf }) ?_ | refine Wl.assignE (by conv => { lhs; whnf }) ?_ | refine Wl.nil ?_ | refine Wl.extract rfl rfl ?_ | refine Qseq.normal ?_ | refine Wc.seq ?_ | refine Wc.region ?_ | refine Wc.condT rfl ?_ | (refine Wl.eql rfl rfl (fun _ => ?_) (fun _ => ?_) <;> (first | (exfalso; omega) | skip))))
    refine Wl.call (cTexts_spec (l := (ofTexts xl).1) (by omega)) rfl ?_
    rintro _ w9 ⟨u3, rfl, o3, n9⟩
    rw [t2] at o3
    rw [t1]
    (repeat' (first | refine Wl.moveE (by conv => { lhs; whnf }) ?_ | refine Wl.assignE (by conv => { lhs; whnf }) ?_ | refine Wl.nil ?_ | refine Wl.extract rfl rfl ?_ | refine Wl.guardY rfl rfl ?_ | refine Qseq.normal ?_ | refine Wc.seq ?_ | refine Wc.region ?_ | (refine Wl.neq rfl rfl (fun _ => ?_) (fun _ => ?_) <;> (first | (exfalso; omega) | skip))))
    refine Wl.call (texts_spec (o3.rd goodStr.mo) (r3.keep (stable_one _) (New.trans n18 n9).keep)) rfl ?_
    rintro _ w10 ⟨rfl, n10⟩
    rw [decide_eq_true rfl]
    have n := New.trans n18 (New.trans n9 n10)
    clear n9 n10 o3 n18 n8 n17 t1 t2 hle hof
    (repeat' (first | refine Wl.moveE (by conv => { lhs; whnf }) ?_ | refine Wl.nil ?_ | refine Wl.guardY rfl rfl ?_ | refine Wl.pickFE rfl (by conv => { lhs; whnf }) ?_ | refine Wl.notB rfl ?_ | refine Qseq.normal ?_ | refine Wc.seq ?_ | refine Wc.region ?_ | refine Wc.skip ?_ | refine Wc.condF rfl ?_))
    rcases Nat.eq_zero_or_pos (l.length % 4) with h4 | h4 <;> rcases Nat.eq_zero_or_pos (l.length % 8) with h8 | h8
    · have f4 := form_ok (k := 4) h4
      have f8 := form_ok (k := 8) h8
      refine Wl.call (cU32s_spec hll) rfl ?_
      rintro _ wa ⟨ca, rfl, oa, na1⟩
      rw [f4.1]
      rw [f4.2] at oa
      (repeat' (first | refine Wl.moveE (by conv => { lhs; whnf }) ?_ | refine Wl.assignE (by conv => { lhs; whnf }) ?_ | refine Wl.nil ?_ | refine Wl.extract rfl rfl ?_ | refine Qseq.normal ?_ | refine Wc.seq ?_ | refine Wc.region ?_))
      refine Wl.call (cU64s_spec hll) rfl ?_
      rintro _ wb ⟨cb, rfl, ob, nb1⟩
      rw [f8.1]
      rw [f8.2] at ob
      (repeat' (first | refine Wl.moveE (by conv => { lhs; whnf }) ?_ | refine Wl.assignE (by conv => { lhs; whnf }) ?_ | refine Wl.nil ?_ | refine Wl.extract rfl rfl ?_ | refine Qseq.normal ?_ | refine Wc.seq ?_ | refine Wc.region ?_))
      refine Wl.call (cTexts_spec hll) rfl ?_
      rintro _ wc ⟨cc, rfl, oc, nc1⟩
      have nz := New.trans n (New.trans na1 (New.trans nb1 nc1))
      have qa := (oa.rd good32.mo).keep (stable_one _) (New.trans nb1 nc1).keep
      have qb := (ob.rd good64.mo).keep (stable_one _) nc1.keep
      have qc := oc.rd goodStr.mo
      (repeat' (first | refine Wl.moveE (by conv => { lhs; whnf }) ?_ | refine Wl.assignE (by conv => { lhs; whnf }) ?_ | refine Wl.nil ?_ | refine Wl.extract rfl rfl ?_ | refine Wl.lenStr rfl ?_ | refine Qseq.normal ?_ | refine Wc.seq ?_ | refine Wc.region ?_ | (refine Wl.eql rfl rfl (fun _ => ?_) (fun _ => ?_) <;> (first | (exfalso; omega) | skip))))
      refine Wl.remW rfl rfl (by omega) ?_
      rw [show (l.length : Int).tmod 4 = ((l.length % 4 : Nat) : Int) from rfl]
      (repeat' (refine Wl.eql rfl rfl (fun _ => ?_) (fun _ => ?_) <;> (first | (exfalso; omega) | skip)))
      refine Wl.bneq rfl rfl ?_
      (repeat' (first | refine Wl.moveE (by conv => { lhs; whnf }) ?_ | refine Wl.guardY rfl rfl ?_ | refine Wl.lenStr rfl ?_ | (refine Wl.eql rfl rfl (fun _ => ?_) (fun _ => ?_) <;> (first | (exfalso; omega) | skip))))
      refine Wl.remW rfl rfl (by omega) ?_
      rw [show (l.length : Int).tmod 8 = ((l.length % 8 : Nat) : Int) from rfl]
      (repeat' (first | refine Wl.guardY rfl rfl ?_ | (refine Wl.eql rfl rfl (fun _ => ?_) (fun _ => ?_) <;> (first | (exfalso; omega) | skip))))
      refine Wl.bneq rfl rfl ?_
      (repeat' (first | refine Wl.moveE (by conv => { lhs; whnf }) ?_ | refine Wl.guardY rfl rfl ?_ | refine Wl.pickFE rfl (by conv => { lhs; whnf }) ?_ | (refine Wl.eql rfl rfl (fun _ => ?_) (fun _ => ?_) <;> (first | (exfalso; omega) | skip))))
      refine Wl.call (cOfU32s_spec qa (fun x hx => pieces4_lt x hx) (by rw [pieces_length]; omega)) rfl ?_
      rintro _ wd ⟨rfl, nd1⟩
      rw [be_pieces (by omega) h4]
      replace nz := New.trans nz nd1
      replace qb := qb.keep (stable_one _) nd1.keep
      replace qc := qc.keep (stable_one _) nd1.keep
      (repeat' (first | refine Wl.moveE (by conv => { lhs; whnf }) ?_ | refine Wl.guardY rfl rfl ?_ | refine Wl.pickTE rfl (by conv => { lhs; whnf }) ?_ | refine Wl.pickFE rfl (by conv => { lhs; whnf }) ?_ | (refine Wl.eql rfl rfl (fun _ => ?_) (fun _ => ?_) <;> (first | (exfalso; omega) | skip)) | (refine Wl.sneq rfl rfl (fun _ => ?_) (fun _ => ?_) <;> (first | (exfalso; contradiction) | skip))))
      refine Wl.call (cOfU64s_spec qb (fun x hx => pieces8_lt x hx) (by rw [pieces_length]; omega)) rfl ?_
      rintro _ we ⟨rfl, ne1⟩
      rw [be_pieces (by omega) h8]
      replace nz := New.trans nz ne1
      replace qc := qc.keep (stable_one _) ne1.keep
      (repeat' (first | refine Wl.moveE (by conv => { lhs; whnf }) ?_ | refine Wl.assignE (by conv => { lhs; whnf }) ?_ | refine Wl.nil ?_ | refine Wl.guardY rfl rfl ?_ | refine Wl.pickTE rfl (by conv => { lhs; whnf }) ?_ | refine Wl.pickFE rfl (by conv => { lhs; whnf }) ?_ | refine Qseq.normal ?_ | refine Wc.seq ?_ | refine Wc.region ?_ | refine Wc.skip ?_ | refine Wc.ret ?_ | refine Qseq.ret ?_ | refine Wc.condT rfl ?_ | refine Wc.condF rfl ?_ | refine Wl.neq rfl rfl (fun _ => ?_) (fun _ => ?_) | (refine Wl.sneq rfl rfl (fun _ => ?_) (fun _ => ?_) <;> (first | (exfalso; contradiction) | skip))))
      · exact Qfn.ret1 rfl rfl ⟨_, rfl, rfl, nz⟩
      · have h0 : tform l = 0 := by omega
        have hbk := of_txts h0
        refine Wl.call (cOfTexts_spec qc (by rw [txts_flat h0]; omega)) rfl ?_
        rintro _ wf ⟨rfl, nf1⟩
        rw [hbk]
        (repeat' (first | refine Wl.moveE (by conv => { lhs; whnf }) ?_ | refine Wl.assignE (by conv => { lhs; whnf }) ?_ | refine Wl.nil ?_ | refine Wl.extract rfl rfl ?_ | refine Wl.guardY rfl rfl ?_ | refine Wl.pickTE rfl (by conv => { lhs; whnf }) ?_ | refine Qseq.normal ?_ | refine Wc.seq ?_ | refine Wc.region ?_ | refine Wc.ret ?_ | (refine Wl.eql rfl rfl (fun _ => ?_) (fun _ => ?_) <;> (first | (exfalso; omega) | skip)) | (refine Wl.seql rfl rfl (fun _ => ?_) (fun _ => ?_) <;> (first | (exfalso; contradiction) | skip))))
        exact Qfn.ret1 rfl rfl ⟨_, rfl, rfl, New.trans nz nf1⟩
    · have f4 := form_ok (k := 4) h4
      have f8 := form_bad (k := 8) (l := l) (by omega)
      refine Wl.call (cU32s_spec hll) rfl ?_
      rintro _ wa ⟨ca, rfl, oa, na1⟩
      rw [f4.1]
      rw [f4.2] at oa
      (repeat' (first | refine Wl.moveE (by conv => { lhs; whnf }) ?_ | refine Wl.assignE (by conv => { lhs; whnf }) ?_ | refine Wl.nil ?_ | refine Wl.extract rfl rfl ?_ | refine Qseq.normal ?_ | refine Wc.seq ?_ | refine Wc.region ?_))
      refine Wl.call (cU64s_spec hll) rfl ?_
      rintro _ wb ⟨cb, rfl, ob, nb1⟩
      rw [f8.1]
      rw [f8.2] at ob
      (repeat' (first | refine Wl.moveE (by conv => { lhs; whnf }) ?_ | refine Wl.assignE (by conv => { lhs; whnf }) ?_ | refine Wl.nil ?_ | refine Wl.extract rfl rfl ?_ | refine Qseq.normal ?_ | refine Wc.seq ?_ | refine Wc.region ?_))
      refine Wl.call (cTexts_spec hll) rfl ?_
      rintro _ wc ⟨cc, rfl, oc, nc1⟩
      have nz := New.trans n (New.trans na1 (New.trans nb1 nc1))
      have qa := (oa.rd good32.mo).keep (stable_one _) (New.trans nb1 nc1).keep
      have qb := (ob.rd good64.mo).keep (stable_one _) nc1.keep
      have qc := oc.rd goodStr.mo
      (repeat' (first | refine Wl.moveE (by conv => { lhs; whnf }) ?_ | refine Wl.assignE (by conv => { lhs; whnf }) ?_ | refine Wl.nil ?_ | refine Wl.extract rfl rfl ?_ | refine Wl.lenStr rfl ?_ | refine Qseq.normal ?_ | refine Wc.seq ?_ | refine Wc.region ?_ | (refine Wl.eql rfl rfl (fun _ => ?_) (fun _ => ?_) <;> (first | (exfalso; omega) | skip))))
      refine Wl.remW rfl rfl (by omega) ?_
      rw [show (l.length : Int).tmod 4 = ((l.length % 4 : Nat) : Int) from rfl]
      (repeat' (refine Wl.eql rfl rfl (fun _ => ?_) (fun _ => ?_) <;> (first | (exfalso; omega) | skip)))
      refine Wl.bneq rfl rfl ?_
      (repeat' (first | refine Wl.moveE (by conv => { lhs; whnf }) ?_ | refine Wl.guardY rfl rfl ?_ | refine Wl.lenStr rfl ?_ | (refine Wl.eql rfl rfl (fun _ => ?_) (fun _ => ?_) <;> (first | (exfalso; omega) | skip))))
      refine Wl.remW rfl rfl (by omega) ?_
      rw [show (l.length : Int).tmod 8 = ((l.length % 8 : Nat) : Int) from rfl]
      (repeat' (first | refine Wl.guardY rfl rfl ?_ | (refine Wl.eql rfl rfl (fun _ => ?_) (fun _ => ?_) <;> (first | (exfalso; omega) | skip))))
      refine Wl.bneq rfl rfl ?_
      (repeat' (first | refine Wl.moveE (by conv => { lhs; whnf }) ?_ | refine Wl.guardY rfl rfl ?_ | refine Wl.pickFE rfl (by conv => { lhs; whnf }) ?_ | (refine Wl.eql rfl rfl (fun _ => ?_) (fun _ => ?_) <;> (first | (exfalso; omega) | skip))))
      refine Wl.call (cOfU32s_spec qa (fun x hx => pieces4_lt x hx) (by rw [pieces_length]; omega)) rfl ?_
      rintro _ wd ⟨rfl, nd1⟩
      rw [be_pieces (by omega) h4]
      replace nz := New.trans nz nd1
      replace qb := qb.keep (stable_one _) nd1.keep
      replace qc := qc.keep (stable_one _) nd1.keep
      (repeat' (first | refine Wl.moveE (by conv => { lhs; whnf }) ?_ | refine Wl.assignE (by conv => { lhs; whnf }) ?_ | refine Wl.nil ?_ | refine Wl.guardY rfl rfl ?_ | refine Wl.guardN rfl rfl ?_ | refine Wl.pickTE rfl (by conv => { lhs; whnf }) ?_ | refine Wl.pickFE rfl (by conv => { lhs; whnf }) ?_ | refine Qseq.normal ?_ | refine Wc.seq ?_ | refine Wc.region ?_ | refine Wc.skip ?_ | refine Wc.ret ?_ | refine Qseq.ret ?_ | refine Wc.condT rfl ?_ | refine Wc.condF rfl ?_ | (refine Wl.eql rfl rfl (fun _ => ?_) (fun _ => ?_) <;> (first | (exfalso; omega) | skip)) | refine Wl.neq rfl rfl (fun _ => ?_) (fun _ => ?_) | (refine Wl.sneq rfl rfl (fun _ => ?_) (fun _ => ?_) <;> (first | (exfalso; contradiction) | skip))))
      · exact Qfn.ret1 rfl rfl ⟨_, rfl, rfl, nz⟩
      · have h0 : tform l = 0 := by omega
        have hbk := of_txts h0
        refine Wl.call (cOfTexts_spec qc (by rw [txts_flat h0]; omega)) rfl ?_
        rintro _ wf ⟨rfl, nf1⟩
        rw [hbk]
        (repeat' (first | refine Wl.moveE (by conv => { lhs; whnf }) ?_ | refine Wl.assignE (by conv => { lhs; whnf }) ?_ | refine Wl.nil ?_ | refine Wl.extract rfl rfl ?_ | refine Wl.guardY rfl rfl ?_ | refine Wl.pickTE rfl (by conv => { lhs; whnf }) ?_ | refine Qseq.normal ?_ | refine Wc.seq ?_ | refine Wc.region ?_ | refine Wc.ret ?_ | (refine Wl.eql rfl rfl (fun _ => ?_) (fun _ => ?_) <;> (first | (exfalso; omega) | skip)) | (refine Wl.seql rfl rfl (fun _ => ?_) (fun _ => ?_) <;> (first | (exfalso; contradiction) | skip))))
        exact Qfn.ret1 rfl rfl ⟨_, rfl, rfl, New.trans nz nf1⟩
    · exfalso; omega
    · have f4 := form_bad (k := 4) (l := l) (by omega)
      have f8 := form_bad (k := 8) (l := l) (by omega)
      refine Wl.call (cU32s_spec hll) rfl ?_
      rintro _ wa ⟨ca, rfl, oa, na1⟩
      rw [f4.1]
      rw [f4.2] at oa
      (repeat' (first | refine Wl.moveE (by conv => { lhs; whnf }) ?_ | refine Wl.assignE (by conv => { lhs; whnf }) ?_ | refine Wl.nil ?_ | refine Wl.extract rfl rfl ?_ | refine Qseq.normal ?_ | refine Wc.seq ?_ | refine Wc.region ?_))
      refine Wl.call (cU64s_spec hll) rfl ?_
      rintro _ wb ⟨cb, rfl, ob, nb1⟩
      rw [f8.1]
      rw [f8.2] at ob
      (repeat' (first | refine Wl.moveE (by conv => { lhs; whnf }) ?_ | refine Wl.assignE (by conv => { lhs; whnf }) ?_ | refine Wl.nil ?_ | refine Wl.extract rfl rfl ?_ | refine Qseq.normal ?_ | refine Wc.seq ?_ | refine Wc.region ?_))
      refine Wl.call (cTexts_spec hll) rfl ?_
      rintro _ wc ⟨cc, rfl, oc, nc1⟩
      have nz := New.trans n (New.trans na1 (New.trans nb1 nc1))
      have qa := (oa.rd good32.mo).keep (stable_one _) (New.trans nb1 nc1).keep
      have qb := (ob.rd good64.mo).keep (stable_one _) nc1.keep
      have qc := oc.rd goodStr.mo
      (repeat' (first | refine Wl.moveE (by conv => { lhs; whnf }) ?_ | refine Wl.assignE (by conv => { lhs; whnf }) ?_ | refine Wl.nil ?_ | refine Wl.extract rfl rfl ?_ | refine Wl.lenStr rfl ?_ | refine Qseq.normal ?_ | refine Wc.seq ?_ | refine Wc.region ?_ | (refine Wl.eql rfl rfl (fun _ => ?_) (fun _ => ?_) <;> (first | (exfalso; omega) | skip))))
      refine Wl.remW rfl rfl (by omega) ?_
      rw [show (l.length : Int).tmod 4 = ((l.length % 4 : Nat) : Int) from rfl]
      (repeat' (refine Wl.eql rfl rfl (fun _ => ?_) (fun _ => ?_) <;> (first | (exfalso; omega) | skip)))
      refine Wl.bneq rfl rfl ?_
      (repeat' (first | refine Wl.moveE (by conv => { lhs; whnf }) ?_ | refine Wl.guardY rfl rfl ?_ | refine Wl.lenStr rfl ?_ | (refine Wl.eql rfl rfl (fun _ => ?_) (fun _ => ?_) <;> (first | (exfalso; omega) | skip))))
      refine Wl.remW rfl rfl (by omega) ?_
      rw [show (l.length : Int).tmod 8 = ((l.length % 8 : Nat) : Int) from rfl]
      (repeat' (first | refine Wl.guardY rfl rfl ?_ | (refine Wl.eql rfl rfl (fun _ => ?_) (fun _ => ?_) <;> (first | (exfalso; omega) | skip))))
      refine Wl.bneq rfl rfl ?_
      (repeat' (first | refine Wl.moveE (by conv => { lhs; whnf }) ?_ | refine Wl.assignE (by conv => { lhs; whnf }) ?_ | refine Wl.nil ?_ | refine Wl.guardY rfl rfl ?_ | refine Wl.guardN rfl rfl ?_ | refine Wl.pickFE rfl (by conv => { lhs; whnf }) ?_ | refine Qseq.normal ?_ | refine Wc.seq ?_ | refine Wc.region ?_ | refine Wc.skip ?_ | refine Wc.ret ?_ | refine Qseq.ret ?_ | refine Wc.condT rfl ?_ | refine Wc.condF rfl ?_ | (refine Wl.eql rfl rfl (fun _ => ?_) (fun _ => ?_) <;> (first | (exfalso; omega) | skip)) | refine Wl.neq rfl rfl (fun _ => ?_) (fun _ => ?_)))
      · exact Qfn.ret1 rfl rfl ⟨_, rfl, rfl, nz⟩
      · have h0 : tform l = 0 := by omega
        have hbk := of_txts h0
        refine Wl.call (cOfTexts_spec qc (by rw [txts_flat h0]; omega)) rfl ?_
        rintro _ wf ⟨rfl, nf1⟩
        rw [hbk]
        (repeat' (first | refine Wl.moveE (by conv => { lhs; whnf }) ?_ | refine Wl.assignE (by conv => { lhs; whnf }) ?_ | refine Wl.nil ?_ | refine Wl.extract rfl rfl ?_ | refine Wl.guardY rfl rfl ?_ | refine Wl.pickTE rfl (by conv => { lhs; whnf }) ?_ | refine Qseq.normal ?_ | refine Wc.seq ?_ | refine Wc.region ?_ | refine Wc.ret ?_ | (refine Wl.eql rfl rfl (fun _ => ?_) (fun _ => ?_) <;> (first | (exfalso; omega) | skip)) | (refine Wl.seql rfl rfl (fun _ => ?_) (fun _ => ?_) <;> (first | (exfalso; contradiction) | skip))))
        exact Qfn.ret1 rfl rfl ⟨_, rfl, rfl, New.trans nz nf1⟩
  · have n := n18
    clear n18 n8 n17
    (repeat' (first | refine Wl.moveE (by conv => { lhs; whnf }) ?_ | refine Wl.assignE (by conv => { lhs; whnf }) ?_ | refine Wl.nil ?_ | refine Wl.extract rfl rfl ?_ | refine Qseq.normal ?_ | refine Wc.seq ?_ | refine Wc.region ?_ | refine Wc.skip ?_ | refine Wc.condF rfl ?_ | (refine Wl.eql rfl rfl (fun _ => ?_) (fun _ => ?_) <;> (first | (exfalso; omega) | skip))))
    rcases Nat.eq_zero_or_pos (l.length % 4) with h4 | h4 <;> rcases Nat.eq_zero_or_pos (l.length % 8) with h8 | h8
    · have f4 := form_ok (k := 4) h4
      have f8 := form_ok (k := 8) h8
      refine Wl.call (cU32s_spec hll) rfl ?_
      rintro _ wa ⟨ca, rfl, oa, na1⟩
      rw [f4.1]
      rw [f4.2] at oa
      (repeat' (first | refine Wl.moveE (by conv => { lhs; whnf }) ?_ | refine Wl.assignE (by conv => { lhs; whnf }) ?_ | refine Wl.nil ?_ | refine Wl.extract rfl rfl ?_ | refine Qseq.normal ?_ | refine Wc.seq ?_ | refine Wc.region ?_))
      refine Wl.call (cU64s_spec hll) rfl ?_
      rintro _ wb ⟨cb, rfl, ob, nb1⟩
      rw [f8.1]
      rw [f8.2] at ob
      (repeat' (first | refine Wl.moveE (by conv => { lhs; whnf }) ?_ | refine Wl.assignE (by conv => { lhs; whnf }) ?_ | refine Wl.nil ?_ | refine Wl.extract rfl rfl ?_ | refine Qseq.normal ?_ | refine Wc.seq ?_ | refine Wc.region ?_))
      refine Wl.call (cTexts_spec hll) rfl ?_
      rintro _ wc ⟨cc, rfl, oc, nc1⟩
      have nz := New.trans n (New.trans na1 (New.trans nb1 nc1))
      have qa := (oa.rd good32.mo).keep (stable_one _) (New.trans nb1 nc1).keep
      have qb := (ob.rd good64.mo).keep (stable_one _) nc1.keep
      have qc := oc.rd goodStr.mo
      (repeat' (first | refine Wl.moveE (by conv => { lhs; whnf }) ?_ | refine Wl.assignE (by conv => { lhs; whnf }) ?_ | refine Wl.nil ?_ | refine Wl.extract rfl rfl ?_ | refine Wl.lenStr rfl ?_ | refine Qseq.normal ?_ | refine Wc.seq ?_ | refine Wc.region ?_ | (refine Wl.eql rfl rfl (fun _ => ?_) (fun _ => ?_) <;> (first | (exfalso; omega) | skip))))
      refine Wl.remW rfl rfl (by omega) ?_
      rw [show (l.length : Int).tmod 4 = ((l.length % 4 : Nat) : Int) from rfl]
      (repeat' (refine Wl.eql rfl rfl (fun _ => ?_) (fun _ => ?_) <;> (first | (exfalso; omega) | skip)))
      refine Wl.bneq rfl rfl ?_
      (repeat' (first | refine Wl.moveE (by conv => { lhs; whnf }) ?_ | refine Wl.guardY rfl rfl ?_ | refine Wl.lenStr rfl ?_ | (refine Wl.eql rfl rfl (fun _ => ?_) (fun _ => ?_) <;> (first | (exfalso; omega) | skip))))
      refine Wl.remW rfl rfl (by omega) ?_
      rw [show (l.length : Int).tmod 8 = ((l.length % 8 : Nat) : Int) from rfl]
      (repeat' (first | refine Wl.guardY rfl rfl ?_ | (refine Wl.eql rfl rfl (fun _ => ?_) (fun _ => ?_) <;> (first | (exfalso; omega) | skip))))
      refine Wl.bneq rfl rfl ?_
      (repeat' (first | refine Wl.moveE (by conv => { lhs; whnf }) ?_ | refine Wl.guardY rfl rfl ?_ | refine Wl.pickFE rfl (by conv => { lhs; whnf }) ?_ | (refine Wl.eql rfl rfl (fun _ => ?_) (fun _ => ?_) <;> (first | (exfalso; omega) | skip))))
      refine Wl.call (cOfU32s_spec qa (fun x hx => pieces4_lt x hx) (by rw [pieces_length]; omega)) rfl ?_
      rintro _ wd ⟨rfl, nd1⟩
      rw [be_pieces (by omega) h4]
      replace nz := New.trans nz nd1
      replace qb := qb.keep (stable_one _) nd1.keep
      replace qc := qc.keep (stable_one _) nd1.keep
      (repeat' (first | refine Wl.moveE (by conv => { lhs; whnf }) ?_ | refine Wl.guardY rfl rfl ?_ | refine Wl.pickTE rfl (by conv => { lhs; whnf }) ?_ | refine Wl.pickFE rfl (by conv => { lhs; whnf }) ?_ | (refine Wl.eql rfl rfl (fun _ => ?_) (fun _ => ?_) <;> (first | (exfalso; omega) | skip)) | (refine Wl.sneq rfl rfl (fun _ => ?_) (fun _ => ?_) <;> (first | (exfalso; contradiction) | skip))))
      refine Wl.call (cOfU64s_spec qb (fun x hx => pieces8_lt x hx) (by rw [pieces_length]; omega)) rfl ?_
      rintro _ we ⟨rfl, ne1⟩
      rw [be_pieces (by omega) h8]
      replace nz := New.trans nz ne1
      replace qc := qc.keep (stable_one _) ne1.keep
      (repeat' (first | refine Wl.moveE (by conv => { lhs; whnf }) ?_ | refine Wl.assignE (by conv => { lhs; whnf }) ?_ | refine Wl.nil ?_ | refine Wl.guardY rfl rfl ?_ | refine Wl.pickTE rfl (by conv => { lhs; whnf }) ?_ | refine Wl.pickFE rfl (by conv => { lhs; whnf }) ?_ | refine Qseq.normal ?_ | refine Wc.seq ?_ | refine Wc.region ?_ | refine Wc.skip ?_ | refine Wc.ret ?_ | refine Qseq.ret ?_ | refine Wc.condT rfl ?_ | refine Wc.condF rfl ?_ | refine Wl.neq rfl rfl (fun _ => ?_) (fun _ => ?_) | (refine Wl.sneq rfl rfl (fun _ => ?_) (fun _ => ?_) <;> (first | (exfalso; contradiction) | skip))))
      · exact Qfn.ret1 rfl rfl ⟨_, rfl, rfl, nz⟩
      · have h0 : tform l = 0 := by omega
        have hbk := of_txts h0
        refine Wl.call (cOfTexts_spec qc (by rw [txts_flat h0]; omega)) rfl ?_
        rintro _ wf ⟨rfl, nf1⟩
        rw [hbk]
        (repeat' (first | refine Wl.moveE (by conv => { lhs; whnf }) ?_ | refine Wl.assignE (by conv => { lhs; whnf }) ?_ | refine Wl.nil ?_ | refine Wl.extract rfl rfl ?_ | refine Wl.guardY rfl rfl ?_ | refine Wl.pickTE rfl (by conv => { lhs; whnf }) ?_ | refine Qseq.normal ?_ | refine Wc.seq ?_ | refine Wc.region ?_ | refine Wc.ret ?_ | (refine Wl.eql rfl rfl (fun _ => ?_) (fun _ => ?_) <;> (first | (exfalso; omega) | skip)) | (refine Wl.seql rfl rfl (fun _ => ?_) (fun _ => ?_) <;> (first | (exfalso; contradiction) | skip))))
        exact Qfn.ret1 rfl rfl ⟨_, rfl, rfl, New.trans nz nf1⟩
    · have f4 := form_ok (k := 4) h4
      have f8 := form_bad (k := 8) (l := l) (by omega)
      refine Wl.call (cU32s_spec hll) rfl ?_
      rintro _ wa ⟨ca, rfl, oa, na1⟩
      rw [f4.1]
      rw [f4.2] at oa
      (repeat' (first | refine Wl.moveE (by conv => { lhs; whnf }) ?_ | refine Wl.assignE (by conv => { lhs; whnf }) ?_ | refine Wl.nil ?_ | refine Wl.extract rfl rfl ?_ | refine Qseq.normal ?_ | refine Wc.seq ?_ | refine Wc.region ?_))
      refine Wl.call (cU64s_spec hll) rfl ?_
      rintro _ wb ⟨cb, rfl, ob, nb1⟩
      rw [f8.1]
      rw [f8.2] at ob
      (repeat' (first | refine Wl.moveE (by conv => { lhs; whnf }) ?_ | refine Wl.assignE (by conv => { lhs; whnf }) ?_ | refine Wl.nil ?_ | refine Wl.extract rfl rfl ?_ | refine Qseq.normal ?_ | refine Wc.seq ?_ | refine Wc.region ?_))
      refine Wl.call (cTexts_spec hll) rfl ?_
      rintro _ wc ⟨cc, rfl, oc, nc1⟩
      have nz := New.trans n (New.trans na1 (New.trans nb1 nc1))
      have qa := (oa.rd good32.mo).keep (stable_one _) (New.trans nb1 nc1).keep
      have qb := (ob.rd good64.mo).keep (stable_one _) nc1.keep
      have qc := oc.rd goodStr.mo
      (repeat' (first | refine Wl.moveE (by conv => { lhs; whnf }) ?_ | refine Wl.assignE (by conv => { lhs; whnf }) ?_ | refine Wl.nil ?_ | refine Wl.extract rfl rfl ?_ | refine Wl.lenStr rfl ?_ | refine Qseq.normal ?_ | refine Wc.seq ?_ | refine Wc.region ?_ | (refine Wl.eql rfl rfl (fun _ => ?_) (fun _ => ?_) <;> (first | (exfalso; omega) | skip))))
      refine Wl.remW rfl rfl (by omega) ?_
      rw [show (l.length : Int).tmod 4 = ((l.length % 4 : Nat) : Int) from rfl]
      (repeat' (refine Wl.eql rfl rfl (fun _ => ?_) (fun _ => ?_) <;> (first | (exfalso; omega) | skip)))
      refine Wl.bneq rfl rfl ?_
      (repeat' (first | refine Wl.moveE (by conv => { lhs; whnf }) ?_ | refine Wl.guardY rfl rfl ?_ | refine Wl.lenStr rfl ?_ | (refine Wl.eql rfl rfl (fun _ => ?_) (fun _ => ?_) <;> (first | (exfalso; omega) | skip))))
      refine Wl.remW rfl rfl (by omega) ?_
      rw [show (l.length : Int).tmod 8 = ((l.length % 8 : Nat) : Int) from rfl]
      (repeat' (first | refine Wl.guardY rfl rfl ?_ | (refine Wl.eql rfl rfl (fun _ => ?_) (fun _ => ?_) <;> (first | (exfalso; omega) | skip))))
      refine Wl.bneq rfl rfl ?_
      (repeat' (first | refine Wl.moveE (by conv => { lhs; whnf }) ?_ | refine Wl.guardY rfl rfl ?_ | refine Wl.pickFE rfl (by conv => { lhs; whnf }) ?_ | (refine Wl.eql rfl rfl (fun _ => ?_) (fun _ => ?_) <;> (first | (exfalso; omega) | skip))))
      refine Wl.call (cOfU32s_spec qa (fun x hx => pieces4_lt x hx) (by rw [pieces_length]; omega)) rfl ?_
      rintro _ wd ⟨rfl, nd1⟩
      rw [be_pieces (by omega) h4]
      replace nz := New.trans nz nd1
      replace qb := qb.keep (stable_one _) nd1.keep
      replace qc := qc.keep (stable_one _) nd1.keep
      (repeat' (first | refine Wl.moveE (by conv => { lhs; whnf }) ?_ | refine Wl.assignE (by conv => { lhs; whnf }) ?_ | refine Wl.nil ?_ | refine Wl.guardY rfl rfl ?_ | refine Wl.guardN rfl rfl ?_ | refine Wl.pickTE rfl (by conv => { lhs; whnf }) ?_ | refine Wl.pickFE rfl (by conv => { lhs; whnf }) ?_ | refine Qseq.normal ?_ | refine Wc.seq ?_ | refine Wc.region ?_ | refine Wc.skip ?_ | refine Wc.ret ?_ | refine Qseq.ret ?_ | refine Wc.condT rfl ?_ | refine Wc.condF rfl ?_ | (refine Wl.eql rfl rfl (fun _ => ?_) (fun _ => ?_) <;> (first | (exfalso; omega) | skip)) | refine Wl.neq rfl rfl (fun _ => ?_) (fun _ => ?_) | (refine Wl.sneq rfl rfl (fun _ => ?_) (fun _ => ?_) <;> (first | (exfalso; contradiction) | skip))))
      · exact Qfn.ret1 rfl rfl ⟨_, rfl, rfl, nz⟩
      · have h0 : tform l = 0 := by omega
        have hbk := of_txts h0
        refine Wl.call (cOfTexts_spec qc (by rw [txts_flat h0]; omega)) rfl ?_
        rintro _ wf ⟨rfl, nf1⟩
        rw [hbk]
        (repeat' (first | refine Wl.moveE (by conv => { lhs; whnf }) ?_ | refine Wl.assignE (by conv => { lhs; whnf }) ?_ | refine Wl.nil ?_ | refine Wl.extract rfl rfl ?_ | refine Wl.guardY rfl rfl ?_ | refine Wl.pickTE rfl (by conv => { lhs; whnf }) ?_ | refine Qseq.normal ?_ | refine Wc.seq ?_ | refine Wc.region ?_ | refine Wc.ret ?_ | (refine Wl.eql rfl rfl (fun _ => ?_) (fun _ => ?_) <;> (first | (exfalso; omega) | skip)) | (refine Wl.seql rfl rfl (fun _ => ?_) (fun _ => ?_) <;> (first | (exfalso; contradiction) | skip))))
        exact Qfn.ret1 rfl rfl ⟨_, rfl, rfl, New.trans nz nf1⟩
    · exfalso; omega
    · have f4 := form_bad (k := 4) (l := l) (by omega)
      have f8 := form_bad (k := 8) (l := l) (by omega)
      refine Wl.call (cU32s_spec hll) rfl ?_
      rintro _ wa ⟨ca, rfl, oa, na1⟩
      rw [f4.1]
      rw [f4.2] at oa
      (repeat' (first | refine Wl.moveE (by conv => { lhs; whnf }) ?_ | refine Wl.assignE (by conv => { lhs; whnf }) ?_ | refine Wl.nil ?_ | refine Wl.extract rfl rfl ?_ | refine Qseq.normal ?_ | refine Wc.seq ?_ | refine Wc.region ?_))
      refine Wl.call (cU64s_spec hll) rfl ?_
      rintro _ wb ⟨cb, rfl, ob, nb1⟩
      rw [f8.1]
      rw [f8.2] at ob
      (repeat' (first | refine Wl.moveE (by conv => { lhs; whnf }) ?_ | refine Wl.assignE (by conv => { lhs; whnf }) ?_ | refine Wl.nil ?_ | refine Wl.extract rfl rfl ?_ | refine Qseq.normal ?_ | refine Wc.seq ?_ | refine Wc.region ?_))
      refine Wl.call (cTexts_spec hll) rfl ?_
      rintro _ wc ⟨cc, rfl, oc, nc1⟩
      have nz := New.trans n (New.trans na1 (New.trans nb1 nc1))
      have qa := (oa.rd good32.mo).keep (stable_one _) (New.trans nb1 nc1).keep
      have qb := (ob.rd good64.mo).keep (stable_one _) nc1.keep
      have qc := oc.rd goodStr.mo
      (repeat' (first | refine Wl.moveE (by conv => { lhs; whnf }) ?_ | refine Wl.assignE (by conv => { lhs; whnf }) ?_ | refine Wl.nil ?_ | refine Wl.extract rfl rfl ?_ | refine Wl.lenStr rfl ?_ | refine Qseq.normal ?_ | refine Wc.seq ?_ | refine Wc.region ?_ | (refine Wl.eql rfl rfl (fun _ => ?_) (fun _ => ?_) <;> (first | (exfalso; omega) | skip))))
      refine Wl.remW rfl rfl (by omega) ?_
      rw [show (l.length : Int).tmod 4 = ((l.length % 4 : Nat) : Int) from rfl]
      (repeat' (refine Wl.eql rfl rfl (fun _ => ?_) (fun _ => ?_) <;> (first | (exfalso; omega) | skip)))
      refine Wl.bneq rfl rfl ?_
      (repeat' (first | refine Wl.moveE (by conv => { lhs; whnf }) ?_ | refine Wl.guardY rfl rfl ?_ | refine Wl.lenStr rfl ?_ | (refine Wl.eql rfl rfl (fun _ => ?_) (fun _ => ?_) <;> (first | (exfalso; omega) | skip))))
      refine Wl.remW rfl rfl (by omega) ?_
      rw [show (l.length : Int).tmod 8 = ((l.length % 8 : Nat) : Int) from rfl]
      (repeat' (first | refine Wl.guardY rfl rfl ?_ | (refine Wl.eql rfl rfl (fun _ => ?_) (fun _ => ?_) <;> (first | (exfalso; omega) | skip))))
      refine Wl.bneq rfl rfl ?_
      (repeat' (first | refine Wl.moveE (by conv => { lhs; whnf }) ?_ | refine Wl.assignE (by conv => { lhs; whnf }) ?_ | refine Wl.nil ?_ | refine Wl.guardY rfl rfl ?_ | refine Wl.guardN rfl rfl ?_ | refine Wl.pickFE rfl (by conv => { lhs; whnf }) ?_ | refine Qseq.normal ?_ | refine Wc.seq ?_ | refine Wc.region ?_ | refine Wc.skip ?_ | refine Wc.ret ?_ | refine Qseq.ret ?_ | refine Wc.condT rfl ?_ | refine Wc.condF rfl ?_ | (refine Wl.eql rfl rfl (fun _ => ?_) (fun _ => ?_) <;> (first | (exfalso; omega) | skip)) | refine Wl.neq rfl rfl (fun _ => ?_) (fun _ => ?_)))
      · exact Qfn.ret1 rfl rfl ⟨_, rfl, rfl, nz⟩
      · have h0 : tform l = 0 := by omega
        have hbk := of_txts h0
        refine Wl.call (cOfTexts_spec qc (by rw [txts_flat h0]; omega)) rfl ?_
        rintro _ wf ⟨rfl, nf1⟩
        rw [hbk]
        (repeat' (first | refine Wl.moveE (by conv => { lhs; whnf }) ?_ | refine Wl.assignE (by conv => { lhs; whnf }) ?_ | refine Wl.nil ?_ | refine Wl.extract rfl rfl ?_ | refine Wl.guardY rfl rfl ?_ | refine Wl.pickTE rfl (by conv => { lhs; whnf }) ?_ | refine Qseq.normal ?_ | refine Wc.seq ?_ | refine Wc.region ?_ | refine Wc.ret ?_ | (refine Wl.eql rfl rfl (fun _ => ?_) (fun _ => ?_) <;> (first | (exfalso; omega) | skip)) | (refine Wl.seql rfl rfl (fun _ => ?_) (fun _ => ?_) <;> (first | (exfalso; contradiction) | skip))))
        exact Qfn.ret1 rfl rfl ⟨_, rfl, rfl, New.trans nz nf1⟩
end Go.Proofs.YthppadlcejpgbaaGreatDoor

namespace Go.Proofs.YthppadlcejpgbaaGreatDoor
open Go Wk

theorem laidVar_of {P : Program} {w : World} {n : String} {d : DataW Unit} : ∀ {l : List (String × DataW Unit)} {ps : List MemPlace}, DataW.LaidVars P w l ps → (n, d) ∈ l →
    ∃ g t cs fuel p, P.globalNamed n = some g ∧ (P.globals[g]?).map (·.type) = some t ∧ w.var? P n = some cs ∧ DataW.trod (fun _ => ()) P w 0 (fun _ => true) false fuel t cs.toList = some (d, p)
  | [], _, _, h => by cases h
  | (m, e) :: r, ps, hl, h => by
    obtain ⟨g, t, cs, fuel, p, q, h1, h2, h3, h4, h5, _⟩ := hl
    rcases List.mem_cons.1 h with h | h
    · cases h
      exact ⟨g, t, cs, fuel, p, h1, h2, h3, h4⟩
    · exact laidVar_of h5 h
theorem iface_of_trod {H : Type} {enc : TypeId × Value → H} {P : Program} {w : World} {base : Nat} {sp : Nat → Bool} {held : Bool} {fuel : Nat} {t : TypeId} {ms : Array (String × TypeId)} {cs : List Value} {nm : String} {d : DataW H} {p : List MemPlace}
    (ht : P.underlying t = some (.interface ms)) (h : DataW.trod enc P w base sp held fuel t cs = some (.iface nm d, p)) : ∃ u v, cs = [.iface u v] := by
  cases fuel with
  | zero => simp [DataW.trod] at h
  | succ fuel =>
    simp only [DataW.trod, ht] at h
    split at h <;> first | cases h | exact ⟨_, _, rfl⟩ | simp_all
theorem cell_lt {w : World} {g i : Nat} {v : Value} (h : w.cell? ⟨g, i, none⟩ = some v) : g < w.heap.size := by
  rcases Nat.lt_or_ge g w.heap.size with h1 | h1
  · exact h1
  · simp only [World.cell?] at h
    rw [Array.getElem?_eq_none h1] at h; cases h
def deB64 : List Int := [0, 1, 56, 2, 57, 49, 28, 3, 61, 58, 42, 50, 38, 29, 17, 4, 62, 47, 59, 36, 45, 43, 51, 22, 53, 39, 33, 30, 24, 18, 12, 5, 63, 55, 48, 27, 60, 41, 37, 16, 46, 35, 44, 21, 52, 32, 23, 11, 54, 26, 40, 15, 34, 20, 31, 10, 25, 14, 19, 9, 13, 8, 7, 6]
theorem deB_of {W : World} {l : List (String × DataW Unit)} (h : laidMet Tryz.prog l W) (hm : ("math/bits.deBruijn64tab", Rows.laid_math_bits_deBruijn64tab) ∈ l) : DeB W := by
  obtain ⟨ps, hl, _⟩ := h
  obtain ⟨g, t, cs, fuel, p, h1, h2, h3, h4⟩ := laidVar_of hl hm
  obtain rfl : 5 = g := Option.some.inj ((show Tryz.prog.globalNamed "math/bits.deBruijn64tab" = some 5 by kernel_rfl).symm.trans h1)
  obtain rfl : 185 = t := Option.some.inj ((show (Tryz.prog.globals[5]?).map (·.type) = some 185 by kernel_rfl).symm.trans h2)
  have hc := Lib.cells_of_tab (zs := deB64) Tryz.underlying185 Tryz.underlying5 (by kernel_rfl) (by kernel_rfl) h4
  have h5 := World.var?_cell h1 h3 15
  have h6 : cs[15]? = some (.int .u8 4) := by
    rw [← Array.getElem?_toList, hc]; rfl
  rw [h6] at h5
  exact ⟨h5, cell_lt h5⟩
theorem errV_of {W : World} {l : List (String × DataW Unit)} (h : laidMet Tryz.prog l W) (hm : ("strconv.ErrRange", Rows.laid_strconv_ErrRange) ∈ l) (hm' : ("strconv.ErrSyntax", Rows.laid_strconv_ErrSyntax) ∈ l) : ErrV W := by
  obtain ⟨ps, hl, _⟩ := h
  rintro g (rfl | rfl)
  · obtain ⟨g, t, cs, fuel, p, h1, h2, h3, h4⟩ := laidVar_of hl hm'
    obtain rfl : 2 = g := Option.some.inj ((show Tryz.prog.globalNamed "strconv.ErrSyntax" = some 2 by kernel_rfl).symm.trans h1)
    obtain rfl : 82 = t := Option.some.inj ((show (Tryz.prog.globals[2]?).map (·.type) = some 82 by kernel_rfl).symm.trans h2)
    obtain ⟨u, v, hc⟩ := iface_of_trod Tryz.underlying82 h4
    have h5 := World.var?_cell h1 h3 0
    rw [← Array.getElem?_toList, hc] at h5
    exact ⟨cell_lt h5, u, v, h5⟩
  · obtain ⟨g, t, cs, fuel, p, h1, h2, h3, h4⟩ := laidVar_of hl hm
    obtain rfl : 3 = g := Option.some.inj ((show Tryz.prog.globalNamed "strconv.ErrRange" = some 3 by kernel_rfl).symm.trans h1)
    obtain rfl : 82 = t := Option.some.inj ((show (Tryz.prog.globals[3]?).map (·.type) = some 82 by kernel_rfl).symm.trans h2)
    obtain ⟨u, v, hc⟩ := iface_of_trod Tryz.underlying82 h4
    have h5 := World.var?_cell h1 h3 0
    rw [← Array.getElem?_toList, hc] at h5
    exact ⟨cell_lt h5, u, v, h5⟩
theorem met_of {P : Program} {l : List (String × DataW Unit)} {W : World} (h0 : (l.filter fun x => x.2.handleName?.isSome) = []) (h : laidMetH P l W) : laidMet P l W := by
  unfold laidMetH at h
  rw [h0] at h; exact h
end Go.Proofs.YthppadlcejpgbaaGreatDoor

namespace Go.Proofs.YthppadlcejpgbaaGreatDoor
open Go Wk

theorem bulk_one {H : Type} (d : DataW H) : 1 ≤ Rows.uptoBulk d := by
  cases d with
  | lit l => cases l <;> simp [Rows.uptoBulk]
  | _ => simp [Rows.uptoBulk]
theorem bulk_len {H : Type} (l : List (DataW H)) : l.length ≤ Rows.uptoBulkAll l := by
  induction l with
  | nil => simp [Rows.uptoBulkAll]
  | cons x r ih => have := bulk_one x; simp only [Rows.uptoBulkAll, List.length_cons]; omega
theorem bulk_sl {α : Type} {D : Dat α} {H : Type} {xs : List α} {d : DataW H} (h : datSl D H xs d) : xs.length ≤ Rows.uptoBulk d := by
  rcases h with ⟨rfl, rfl⟩ | ⟨es, sp, rfl, hl, _⟩
  · simp
  · have := bulk_len es
    simp only [Rows.uptoBulk]
    omega
/-- A measure of the elements, added up. -/
theorem bulk_sum {α : Type} {D : Dat α} {H : Type} (μ : α → Nat) (hμ : ∀ x d, D H x d → μ x ≤ Rows.uptoBulk d) : ∀ (xs : List α) (es : List (DataW H)), es.length = xs.length → (∀ (i : Nat) (x : α), xs[i]? = some x → ∃ y, es[i]? = some y ∧ D H x y) → (xs.map μ).sum ≤ Rows.uptoBulkAll es
  | [], es, _, _ => by simp
  | x :: xs, [], h, _ => by simp at h
  | x :: xs, e :: es, h, hd => by
    obtain ⟨y, hy, hD⟩ := hd 0 x rfl
    simp at hy
    subst hy
    have ih := bulk_sum μ hμ xs es (by simpa using h) (fun i x hx => by
      obtain ⟨y, hy, hD⟩ := hd (i + 1) x (by simpa using hx)
      exact ⟨y, by simpa using hy, hD⟩)
    have := hμ x e hD
    simp only [List.map_cons, List.sum_cons, Rows.uptoBulkAll]
    omega
theorem bulk_slsum {α : Type} {D : Dat α} {H : Type} {xs : List α} {d : DataW H} (μ : α → Nat) (hμ : ∀ x d, D H x d → μ x ≤ Rows.uptoBulk d) (h : datSl D H xs d) : (xs.map μ).sum ≤ Rows.uptoBulk d := by
  rcases h with ⟨rfl, rfl⟩ | ⟨es, sp, rfl, hl, hd⟩
  · simp
  · have := bulk_sum μ hμ xs es hl hd
    simp only [Rows.uptoBulk]
    omega
theorem bulk_str {H : Type} (l : List UInt8) (d : DataW H) (h : datStr H l d) : l.length + 1 ≤ Rows.uptoBulk d := by
  obtain ⟨rfl, _⟩ := h
  simp [Rows.uptoBulk]
theorem dat_mem {α : Type} {D : Dat α} {H : Type} {xs : List α} {d : DataW H} (h : datSl D H xs d) {x : α} (hx : x ∈ xs) : ∃ y, D H x y := by
  obtain ⟨i, hi⟩ := List.mem_iff_getElem?.1 hx
  rcases h with ⟨rfl, rfl⟩ | ⟨es, sp, rfl, hl, hd⟩
  · simp at hi
  · obtain ⟨y, _, hD⟩ := hd i x hi
    exact ⟨y, hD⟩
end Go.Proofs.YthppadlcejpgbaaGreatDoor
