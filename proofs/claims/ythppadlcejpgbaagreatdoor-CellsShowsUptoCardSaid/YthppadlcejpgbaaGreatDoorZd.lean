/-
  Texts of this claim, one behind the other: Jo, Cpy, Jh, J1, Ju, J2, Jv, Jw, Jb, Jd, J3, J6, J5.
-/
import Derived.Test.YthppadlcejpgbaaGreatDoorZc
import Derived.Laws.CopyRow
namespace Go.Proofs.YthppadlcejpgbaaGreatDoor
open Go Wk
open Go.RowKit (Below)
attribute [local irreducible] Go.Calls

theorem CutPrefix_spec {w : World} (s p : List UInt8) : Calls Tryz.prog 59 #[vs s, vs p] w (Ret fun r w' => ((∃ t, s = p ++ t ∧ r = .tuple #[vs t, .bool true]) ∨ ((∀ t, s ≠ p ++ t) ∧ r = .tuple #[vs s, .bool false])) ∧ w = w') := by
  refine (Tryz.strings_CutPrefix ⟨s.toArray⟩ ⟨p.toArray⟩ w).mono ?_
  rintro e w' ⟨rfl, rfl⟩
  refine ⟨_, rfl, ?_, rfl⟩
  show _ ∨ _
  have e1 : Lib.hasPrefix s p = p.isPrefixOf s := rfl
  cases h : p.isPrefixOf s with
  | true =>
    obtain ⟨t, rfl⟩ := List.isPrefixOf_iff_prefix.1 h
    refine .inl ⟨t, rfl, ?_⟩
    show Value.tuple #[.string ⟨(Lib.trimPrefix (p ++ t) p).toArray⟩, .bool (Lib.hasPrefix (p ++ t) p)] = _
    unfold Lib.trimPrefix
    rw [e1, h, if_pos rfl, List.drop_left]
  | false =>
    refine .inr ⟨fun t e => ?_, ?_⟩
    · have := List.isPrefixOf_iff_prefix.2 ⟨t, e.symm⟩
      rw [h] at this; cases this
    · show Value.tuple #[.string ⟨(Lib.trimPrefix s p).toArray⟩, .bool (Lib.hasPrefix s p)] = _
      unfold Lib.trimPrefix
      rw [e1, h, if_neg (by simp)]
theorem CutSuffixP_spec {w : World} (s p : List UInt8) (hl : s.length ≤ 100000000) : Calls Tryz.prog 44 #[vs s, vs p] w (Ret fun r w' => ((∃ t, s = t ++ p ∧ r = .tuple #[vs t, .bool true]) ∨ ((∀ t, s ≠ t ++ p) ∧ r = .tuple #[vs s, .bool false])) ∧ w = w') := by
  refine (Tryz.strings_CutSuffix ⟨s.toArray⟩ ⟨p.toArray⟩ w (by show s.toArray.size ≤ _; simp; omega)).mono ?_
  rintro e w' ⟨rfl, rfl⟩
  refine ⟨_, rfl, ?_, rfl⟩
  show _ ∨ _
  have e1 : Lib.hasSuffix s p = p.isSuffixOf s := rfl
  cases h : p.isSuffixOf s with
  | true =>
    obtain ⟨t, rfl⟩ := List.isSuffixOf_iff_suffix.1 h
    refine .inl ⟨t, rfl, ?_⟩
    show Value.tuple #[.string ⟨(Lib.trimSuffix (t ++ p) p).toArray⟩, .bool (Lib.hasSuffix (t ++ p) p)] = _
    unfold Lib.trimSuffix
    rw [e1, h, if_pos rfl, List.length_append, Nat.add_sub_cancel, List.take_left]
  | false =>
    refine .inr ⟨fun t e => ?_, ?_⟩
    · have := List.isSuffixOf_iff_suffix.2 ⟨t, e.symm⟩
      rw [h] at this; cases this
    · show Value.tuple #[.string ⟨(Lib.trimSuffix s p).toArray⟩, .bool (Lib.hasSuffix s p)] = _
      unfold Lib.trimSuffix
      rw [e1, h, if_neg (by simp)]
theorem HasPrefix1_spec {w : World} (s : List UInt8) (c : UInt8) : Calls Tryz.prog 35 #[vs s, vs [c]] w (Ret fun r w' => r = .bool (decide (s.head? = some c)) ∧ w = w') := by
  refine (Tryz.strings_HasPrefix ⟨s.toArray⟩ ⟨#[c]⟩ w).mono ?_
  rintro e w' ⟨rfl, rfl⟩
  refine ⟨_, rfl, ?_, rfl⟩
  show Value.bool (List.isPrefixOf [c] s) = _
  congr 1
  cases s with
  | nil => rfl
  | cons d s =>
    show ((c == d) && true) = _
    rw [Bool.and_true, List.head?_cons]
    by_cases h : c = d
    · subst h; rw [beq_self_eq_true, decide_eq_true rfl]
    · rw [beq_eq_false_iff_ne.2 h, decide_eq_false fun e => h (Option.some.inj e).symm]
theorem dropX_trim (w : List UInt8) : Lib.trimPrefix w [48, 120] = dropX w := by
  unfold Lib.trimPrefix Lib.hasPrefix
  cases h : List.isPrefixOf [48, 120] w with
  | true =>
    obtain ⟨t, rfl⟩ := List.isPrefixOf_iff_prefix.1 h
    rfl
  | false =>
    rw [if_neg (by simp)]
    unfold dropX
    split
    · simp [List.isPrefixOf] at h
    · rfl
theorem TrimPrefix_spec {w : World} (s : List UInt8) : Calls Tryz.prog 61 #[vs s, vs [48, 120]] w (Ret fun r w' => r = vs (dropX s) ∧ w = w') := by
  refine (Tryz.strings_TrimPrefix ⟨s.toArray⟩ ⟨#[48, 120]⟩ w).mono ?_
  rintro e w' ⟨rfl, rfl⟩
  refine ⟨_, rfl, ?_, rfl⟩
  show Value.string ⟨(Lib.trimPrefix s [48, 120]).toArray⟩ = _
  rw [dropX_trim]
theorem dropX_len (s : List UInt8) : (dropX s).length ≤ s.length := by rw [← dropX_trim]; exact Lib.trimPrefix_le s [48, 120]
/-- A value that may have been read, and whether. -/
def optV8 : Option (List UInt8) → Value
  | some l => .tuple #[vs l, .bool true]
  | none => .tuple #[vs [], .bool false]
theorem splitR_le (c : UInt8) : ∀ (l : List UInt8), ∀ t ∈ splitR c l, t.length ≤ l.length
  | [], t, h => by simp [splitR] at h; subst h; simp
  | b :: l, t, h => by
    have ih := splitR_le c l
    rw [splitR] at h
    split at h
    · rcases List.mem_cons.1 h with rfl | h
      · simp
      · have := ih t h; simp only [List.length_cons]; omega
    · revert h
      cases hq : splitR c l with
      | nil => exact absurd hq (splitR_ne c l)
      | cons x xs =>
        intro h
        rw [hq] at ih
        rcases List.mem_cons.1 h with rfl | h
        · have := ih x (by simp); simp only [List.length_cons]; omega
        · have := ih t (by simp [h]); simp only [List.length_cons]; omega
theorem wordsM_len {sz mx : Nat} : ∀ {ws : List (List UInt8)} {acc r : List UInt8}, wordsM sz mx ws acc = some r → r.length = acc.length + sz * ws.length
  | [], acc, r, h => by cases h; simp
  | w :: ws, acc, r, h => by
    unfold wordsM at h
    split at h
    · cases h
    · have := wordsM_len h
      rw [this, List.length_append, be_length, List.length_cons, Nat.mul_add]; omega
theorem vs_nil : (Value.string { data := #[] }) = vs [] := rfl
set_option maxHeartbeats 1000000 in
theorem listed_spec {w : World} {s : List UInt8} {b e : UInt8} {sz mx : Nat} (hE : ErrV w) (hsz : sz = 1 ∧ mx = 255 ∨ sz = 4 ∧ mx = 4294967295) (hl : s.length ≤ 100000000) :
    Calls Tryz.prog 37 #[vs s, vs [b], vs [e], vi sz] w (Ret fun r w' => r = optV8 (listedM b e sz mx s) ∧ New w w') := by
  have hbits : (8 * sz = 8 ∧ mx = 255) ∨ (8 * sz = 32 ∧ mx = 4294967295) := by omega
  have hsz4 : sz ≤ 4 := by omega
  refine calls_of_Wc Tryz.func37 rfl Tryz.ntmps37 rfl ?_
  (repeat' (first | refine Wl.moveE (by conv => { lhs; whnf }) ?_ | refine Wl.assignE (by conv => { lhs; whnf }) ?_ | refine Wl.nil ?_ | refine Qseq.normal ?_ | refine Wc.seq ?_ | refine Wc.region ?_))
  refine Wl.call (CutPrefix_spec s [b]) rfl ?_
  rintro _ _ ⟨h1, rfl⟩
  rcases h1 with ⟨r, rfl, rfl⟩ | ⟨hno, rfl⟩
  · have hlr : r.length ≤ 100000000 := by simp at hl; omega
    (repeat' (first | refine Wl.moveE (by conv => { lhs; whnf }) ?_ | refine Wl.assignE (by conv => { lhs; whnf }) ?_ | refine Wl.nil ?_ | refine Wl.extract rfl rfl ?_ | refine Qseq.normal ?_ | refine Wc.seq ?_ | refine Wc.region ?_))
    refine Wl.call (CutSuffixP_spec r [e] hlr) rfl ?_
    rintro _ _ ⟨h2, rfl⟩
    rcases h2 with ⟨q, rfl, rfl⟩ | ⟨hno, rfl⟩
    · have hlm : listedM b e sz mx ([b] ++ (q ++ [e])) = wordsM sz mx (splitR 32 q) [] := by
        unfold listedM
        simp only [List.singleton_append]
        rw [if_pos trivial, if_pos (by simp), List.dropLast_concat]
      rw [hlm]
      have hlq : q.length ≤ 100000000 := by simp at hlr; omega
      (repeat' (first | refine Wl.moveE (by conv => { lhs; whnf }) ?_ | refine Wl.assignE (by conv => { lhs; whnf }) ?_ | refine Wl.nil ?_ | refine Wl.extract rfl rfl ?_ | refine Wl.guardY rfl rfl ?_ | refine Wl.pickFE rfl (by conv => { lhs; whnf }) ?_ | refine Wl.notB rfl ?_ | refine Qseq.normal ?_ | refine Wc.seq ?_ | refine Wc.region ?_ | refine Wc.skip ?_ | refine Wc.condF rfl ?_))
      refine Wl.call (SplitC_spec 32 hlq) rfl ?_
      rintro v w1 ⟨ho, n1⟩
      have hr := ho.rd goodStr.mo
      have hws : ∀ t ∈ splitR 32 q, t.length ≤ 100000000 := fun t ht => Nat.le_trans (splitR_le 32 q t ht) hlq
      have hwl : (splitR 32 q).length ≤ 100000001 := by rw [splitR_length]; have := List.count_le_length (a := (32 : UInt8)) (l := q); omega
      generalize splitR 32 q = ws at hr hws hwl
      clear ho
      obtain ⟨a, cap, rfl, hcap, hmax⟩ := hr.form
      simp only [maxLen] at hmax
      have hr2 : RdS (one vs) 1 (fun b => b < w1.heap.size) w1 (.slice a ws.length cap) ws := by
        rcases hr with h | h | ⟨b, off, c2, cur, e, fr, hv, hb, hh, h⟩
        · exact .inl h
        · exact .inr (.inl h)
        · exact .inr (.inr ⟨b, off, c2, cur, e, fr, hv, heap_lt hh, hh, h⟩)
      clear hr
      (repeat' (first | refine Wl.moveE (by conv => { lhs; whnf }) ?_ | refine Wl.nil ?_ | refine Wl.lenS rfl ?_ | refine Qseq.normal ?_ | refine Wc.block ?_))
      refine Wc.loop (σ := Nat × Value × List UInt8) (fun x => [(3, vi sz), (13, x.2.1), (37, .slice a ws.length cap), (38, vi ws.length), (39, vi x.1)]) (fun x w' => x.1 ≤ ws.length ∧ x.2.2.length ≤ 4 * x.1 ∧ wordsM sz mx ws [] = wordsM sz mx (ws.drop x.1) x.2.2 ∧ OwnS (one by8) 5 1 (fun b => w1.heap.size ≤ b) (fun _ => False) w' x.2.1 x.2.2 ∧ Chg (fun b => w1.heap.size ≤ b) w1 w') (fun x => ws.length - x.1) (0, .slice none 0 0, []) ⟨rfl, rfl, rfl, rfl, rfl, trivial⟩ ⟨Nat.zero_le _, Nat.le_refl _, rfl, OwnS.nil, Chg.refl _ _⟩ ?_
      rintro ⟨i, bv, acc⟩ G w2 ⟨hi, hacc, hw, ho, n2⟩
      dsimp only at hi hacc hw ho
      simp only [upds]
      have s2 := n2.size
      (repeat' (first | refine Wl.moveE (by conv => { lhs; whnf }) ?_ | refine Wl.nil ?_ | refine Qseq.normal ?_ | refine Wc.seq ?_ | refine Wc.region ?_ | refine Wc.block ?_ | refine Wc.skip ?_ | refine Wc.exit ?_ | refine Qseq.exit ?_ | refine Qblk.hit ?_ | refine Qloop.exit ?_ | refine Wc.condT rfl ?_ | refine Wc.condF rfl ?_ | refine Wl.lss rfl rfl (fun _ => ?_) (fun _ => ?_)))
      · obtain ⟨x, hx⟩ := get_lt' ws (k := i) (by omega)
        have hxl := hws x (List.mem_of_getElem? hx)
        have hdr : ws.drop i = x :: ws.drop (i + 1) := by
          obtain ⟨h1, h2⟩ := List.getElem?_eq_some_iff.1 hx
          rw [List.drop_eq_getElem_cons h1, h2]
        rw [hdr] at hw
        rw [wordsM.eq_2] at hw
        have hr3 := hr2.keep (stable_one _) (n2.keep fun b hb h => by omega)
        refine Wl.idxLoadV hr3 rfl rfl (by omega) (by rw [Int.toNat_natCast]; exact hx) rfl rfl fun p => ?_
        (repeat' (first | refine Wl.moveE (by conv => { lhs; whnf }) ?_ | refine Wl.assignE (by conv => { lhs; whnf }) ?_ | refine Wl.nil ?_ | refine Qseq.normal ?_ | refine Wc.seq ?_ | refine Wc.region ?_))
        refine Wl.call (TrimPrefix_spec x) rfl ?_
        rintro _ _ ⟨rfl, rfl⟩
        (repeat' (first | refine Wl.moveE (by conv => { lhs; whnf }) ?_ | refine Wl.mul rfl rfl (by omega) (by omega) ?_))
        rw [show (8 : Int) * (sz : Int) = ((8 * sz : Nat) : Int) by omega]
        have hE2 : ErrV w2 := hE.new (Chg.trans n1 n2 fun k hk h => by have := n1.size; omega)
        refine Wl.call (Parse_spec hE2 hbits (show (dropX x).length ≤ _ by have := dropX_len x; omega)) rfl ?_
        rintro pr w3 ⟨hp, n3⟩
        cases hpu : puR mx (dropX x) with
        | none =>
          rw [hpu] at hp hw
          obtain ⟨m, t, v, rfl⟩ := hp
          (repeat' (first | refine Wl.moveE (by conv => { lhs; whnf }) ?_ | refine Wl.assignE (by conv => { lhs; whnf }) ?_ | refine Wl.nil ?_ | refine Wl.extract rfl rfl ?_ | refine Qseq.normal ?_ | refine Wc.seq ?_ | refine Wc.region ?_))
          refine Wl.ineHeld rfl ?_
          (repeat' (first | refine Wl.assignE (by conv => { lhs; whnf }) ?_ | refine Wl.nil ?_ | refine Qseq.normal ?_ | refine Wc.seq ?_ | refine Wc.region ?_ | refine Wc.ret ?_ | refine Qseq.ret ?_ | refine Qblk.ret ?_ | refine Qloop.ret ?_ | refine Wc.condT rfl ?_))
          refine Qfn.ret2 rfl rfl rfl ⟨_, rfl, ?_, ?_⟩
          · rw [hw]; rfl
          · exact Chg.trans n1 (Chg.trans n2 n3 fun _ _ h => h.elim) fun k hk h => by have := n1.size; omega
        | some N =>
          rw [hpu] at hp hw
          dsimp only at hw
          replace hp : pr = .tuple #[.int .u64 N, Value.nilIface] := hp
          subst hp
          (repeat' (first | refine Wl.moveE (by conv => { lhs; whnf }) ?_ | refine Wl.assignE (by conv => { lhs; whnf }) ?_ | refine Wl.nil ?_ | refine Wl.extract rfl rfl ?_ | refine Qseq.normal ?_ | refine Wc.seq ?_ | refine Wc.region ?_))
          refine Wl.ineNil rfl ?_
          (repeat' (first | refine Wl.moveE (by conv => { lhs; whnf }) ?_ | refine Wl.nil ?_ | refine Qseq.normal ?_ | refine Wc.region ?_ | refine Wc.skip ?_ | refine Wc.condF rfl ?_))
          refine Wl.call (laid_spec (ho.keepP n3.keep) (show sz ≤ 8 by omega) (by omega)) rfl ?_
          rintro bv2 w4 ⟨ho4, c4⟩
          have s3 := n3.size
          (repeat' (first | refine Wl.moveE (by conv => { lhs; whnf }) ?_ | refine Wl.assignE (by conv => { lhs; whnf }) ?_ | refine Wl.nil ?_ | refine Qseq.normal ?_ | refine Wc.region ?_ | refine Qblk.normal ?_ | refine Wl.add rfl rfl (by omega) (by omega) ?_))
          refine Qloop.normal (i + 1, bv2, acc ++ be sz (N : Int)) ⟨rfl, rfl, rfl, rfl, rfl, trivial⟩ ⟨by dsimp only; omega, by dsimp only; rw [List.length_append, be_length]; omega, hw, ho4.mono good8.mo (fun b _ hb => by rcases hb with hb | hb <;> omega) (fun _ _ h => h), ?_⟩ (by dsimp only; omega)
          exact Chg.trans n2 (Chg.trans n3.any c4 fun _ _ h => h) fun _ _ h => h
      · have hi2 : i = ws.length := by omega
        subst hi2
        rw [List.drop_length] at hw
        refine Wl.bytesStr (ho.rd (mono_one _)) rfl ?_
        (repeat' (first | refine Wl.assignE (by conv => { lhs; whnf }) ?_ | refine Wl.nil ?_ | refine Qseq.normal ?_ | refine Wc.ret ?_))
        refine Qfn.ret2 rfl rfl rfl ⟨_, rfl, ?_, ?_⟩
        · rw [hw]; rfl
        · exact Chg.trans n1 n2 fun k hk h => by have := n1.size; omega
    · have hlm : listedM b e sz mx ([b] ++ r) = none := by
        unfold listedM
        simp only [List.singleton_append]
        rw [if_pos trivial, if_neg]
        intro h
        obtain ⟨hne, h⟩ := List.getLast?_eq_some_iff.1 h
        exact hno _ h
      rw [hlm]
      (repeat' (first | refine Wl.moveE (by conv => { lhs; whnf }) ?_ | refine Wl.assignE (by conv => { lhs; whnf }) ?_ | refine Wl.nil ?_ | refine Wl.extract rfl rfl ?_ | refine Wl.guardY rfl rfl ?_ | refine Wl.pickFE rfl (by conv => { lhs; whnf }) ?_ | refine Wl.notB rfl ?_ | refine Qseq.normal ?_ | refine Wc.seq ?_ | refine Wc.region ?_ | refine Wc.ret ?_ | refine Qseq.ret ?_ | refine Wc.condT rfl ?_))
      exact Qfn.ret2 rfl rfl rfl ⟨_, rfl, rfl, Chg.refl _ _⟩
  · have hlm : listedM b e sz mx s = none := by
      unfold listedM
      cases s with
      | nil => rfl
      | cons c r =>
        dsimp only
        rw [if_neg fun e => hno r (by rw [e]; rfl)]
    rw [hlm]
    (repeat' (first | refine Wl.moveE (by conv => { lhs; whnf }) ?_ | refine Wl.assignE (by conv => { lhs; whnf }) ?_ | refine Wl.nil ?_ | refine Wl.extract rfl rfl ?_ | refine Qseq.normal ?_ | refine Wc.seq ?_ | refine Wc.region ?_))
    refine Wl.call (CutSuffixP_spec s [e] hl) rfl ?_
    rintro _ _ ⟨h2, rfl⟩
    rcases h2 with ⟨q, rfl, rfl⟩ | ⟨_, rfl⟩
    · (repeat' (first | refine Wl.moveE (by conv => { lhs; whnf }) ?_ | refine Wl.assignE (by conv => { lhs; whnf }) ?_ | refine Wl.nil ?_ | refine Wl.extract rfl rfl ?_ | refine Wl.guardN rfl rfl ?_ | refine Wl.pickTE rfl (by conv => { lhs; whnf }) ?_ | refine Wl.notB rfl ?_ | refine Qseq.normal ?_ | refine Wc.seq ?_ | refine Wc.region ?_ | refine Wc.ret ?_ | refine Qseq.ret ?_ | refine Wc.condT rfl ?_))
      exact Qfn.ret2 rfl rfl rfl ⟨_, rfl, rfl, Chg.refl _ _⟩
    · (repeat' (first | refine Wl.moveE (by conv => { lhs; whnf }) ?_ | refine Wl.assignE (by conv => { lhs; whnf }) ?_ | refine Wl.nil ?_ | refine Wl.extract rfl rfl ?_ | refine Wl.guardN rfl rfl ?_ | refine Wl.pickTE rfl (by conv => { lhs; whnf }) ?_ | refine Wl.notB rfl ?_ | refine Qseq.normal ?_ | refine Wc.seq ?_ | refine Wc.region ?_ | refine Wc.ret ?_ | refine Qseq.ret ?_ | refine Wc.condT rfl ?_))
      exact Qfn.ret2 rfl rfl rfl ⟨_, rfl, rfl, Chg.refl _ _⟩
end Go.Proofs.YthppadlcejpgbaaGreatDoor

namespace Go.Proofs.YthppadlcejpgbaaGreatDoor.Wk
open Go Go.RowKit

section
variable {P : Program} {n : Nat} {ds : List Deferred} {Q : Po} {F : Fr} {w w' : World} {ops rest : List Oper} {d d1 d2 : Nat} {ty ty1 ty2 : TypeId} {pos pos1 pos2 : String} {aft aft1 aft2 : Array Edge}
/-- 'make([]T, c)', of whatever elements. -/
theorem Wl.makeA {x y : Operand} {t e : TypeId} {sz bytes : Nat} {agg : Bool} {z : Value} {kl kc : IntKind} {m : Nat}
    [ht : Und P t (.slice e)] [he : ElT P e sz bytes agg z] (hx : ev n F x = .int kl m) (hy : ev n F y = .int kc m) (hby : bytes * m ≤ 281474976710656) (h63 : m ≤ maxLen)
    (c : ∀ w' cs, OwnC (fun b => b = w.heap.size) w' e sz (.slice (some ⟨w.heap.size, 0, none⟩) m m) m cs → New w w' → w'.heap.size = w.heap.size + 1 → Wl P n ds Q ops rest (upd F d (.slice (some ⟨w.heap.size, 0, none⟩) m m)) w') :
    Wl P n ds Q ops (⟨some d, .makeSlice t x y, ty, pos, aft, none⟩ :: rest) F w := by
  obtain ⟨i, hi, hsz', hby', hz'⟩ := he.inf
  have hb' : (i.bytes : Int) * (m : Int) ≤ 281474976710656 := by
    have h : ((i.bytes * m : Nat) : Int) ≤ 281474976710656 := by rw [hby']; omega
    rwa [Int.natCast_mul] at h
  have h63' := h63
  simp only [maxLen] at h63'
  have hr := run_make (P := P) w t e i z ht.h hi hz' kl kc m m (by omega) (Int.le_refl _) hb' (by omega)
  simp only [Int.toNat_natCast] at hr
  refine Wl.val (v := .slice (some ⟨w.heap.size, 0, none⟩) m m) (w' := w.alloc (.cells (madeCells z.cells (m * i.size)) e)) ?_ (c _ (madeCells z.cells (m * i.size)).toList ⟨by simp [size_madeCells, hsz'], .inr ⟨w.heap.size, m, _, rfl, rfl, heap_alloc_new w _, Nat.le_refl _, h63, by rw [size_madeCells, hsz'], ?_⟩⟩ (Chg.alloc _ _ _) (by simp))
  · simp only [execOp, hx, hy, Sem.run_bind, hr, Result.andThen_ok, Sem.run_pure]
  · rw [List.take_of_length_le]; simp [size_madeCells, hsz']
/-- 'copy(dst, src)', all of the one over all of the other. -/
theorem Wl.copyAll {α : Type} {R : Rel α} {x y : Operand} {t e : TypeId} {sz bytes : Nat} {agg : Bool} {z u v : Value} {Pb Pe Pr : Nat → Prop} {g m cap : Nat} {cs0 : List Value} {xs : List α} (hR : GoodR R sz)
    [ht : Und P t (.slice e)] [he : ElT P e sz bytes agg z] (hown : OwnC Pb w e sz v m cs0) (hv : v = .slice (some ⟨g, 0, none⟩) m cap) (hr : RdS R sz Pr w u xs) (hm : xs.length = m) (hp : ∀ x cs, R Pr w x cs → R (fun b => Pe b ∧ g ≠ b) w x cs) (hsz : 0 < sz)
    (hx : ev n F x = v) (hy : ev n F y = u)
    (c : ∀ w', OwnS R e sz Pb Pe w' v xs → Chg (fun b => b = g) w w' → w'.heap.size = w.heap.size → Wl P n ds Q ops rest (upd F d (vi m)) w') :
    Wl P n ds Q ops (⟨some d, .call { callee := .builtin .copy, args := #[x, y], argTypes := #[t, t] }, ty, pos, aft, none⟩ :: rest) F w := by
  obtain ⟨i, hi, hsz', hby', hz'⟩ := he.inf
  subst hm
  -- the source's cells
  have hsrc : ∃ (p : Option Addr) (cp : Nat) (cs : List Value), u = .slice p xs.length cp ∧ cs.length = xs.length * sz ∧ (∀ (i : Nat) (x : α), xs[i]? = some x → R Pr w x ((cs.drop (i * sz)).take sz)) ∧ (Builtin.firstCells sz xs.length u).run P w = .ok cs.toArray w := by
    rcases hr with ⟨rfl, rfl⟩ | ⟨a, cp, rfl, rfl, hc⟩ | ⟨b, off, cp, cur, e', fr, rfl, hb, hh, h1, h2, h3, h4⟩
    · exact ⟨none, 0, [], rfl, by simp, by simp, rfl⟩
    · exact ⟨some a, cp, [], rfl, by simp, by simp, by simp [Builtin.firstCells, loadCells, loadCellsFrom]⟩
    · have hcl : ((cur.toList.drop off).take (xs.length * sz)).length = xs.length * sz := by simp; omega
      refine ⟨_, cp, (cur.toList.drop off).take (xs.length * sz), rfl, hcl, fun i x hx => ?_, ?_⟩
      · have hil : i < xs.length := (List.getElem?_eq_some_iff.1 hx).1
        have hle : (i + 1) * sz ≤ xs.length * sz := Nat.mul_le_mul_right _ hil
        rw [Nat.add_mul] at hle
        rw [List.drop_take, List.take_take, Nat.min_eq_left (by omega), List.drop_drop]
        exact h4 i x hx
      · have hl := run_loadCells_list (P := P) w ⟨b, off, none⟩ ((cur.toList.drop off).take (xs.length * sz)) (fun j v hv => by
          rw [addr_add]
          rw [List.getElem?_take] at hv
          split at hv
          · rw [List.getElem?_drop] at hv
            simp only [World.cell?, hh]
            simpa using hv
          · cases hv)
        rw [hcl] at hl
        simp only [Builtin.firstCells]
        exact hl
  obtain ⟨p, cp, cs, rfl, hcl, hel, hfc⟩ := hsrc
  obtain ⟨hl0, hoc⟩ := hown
  rcases hoc with ⟨e1, _⟩ | ⟨g', cap', cur, e1, hb, hg, h1, h2, h3, h4⟩
  · rw [hv] at e1; cases e1
  · rw [hv] at e1
    cases e1
    have hle : xs.length * sz ≤ cap * sz := Nat.mul_le_mul_right _ h1
    have hoc : ∀ c ∈ cs, c.oneCell' = true := by
      intro q hq
      obtain ⟨j, hj, rfl⟩ := List.getElem_of_mem hq
      rw [hcl] at hj
      have hjs : j / sz < xs.length := Nat.div_lt_of_lt_mul (by rw [Nat.mul_comm]; exact hj)
      have h5 := hel (j / sz) xs[j / sz] (List.getElem?_eq_getElem hjs)
      have hle2 : (j / sz + 1) * sz ≤ xs.length * sz := Nat.mul_le_mul_right _ hjs
      rw [Nat.add_mul] at hle2
      refine hR.oc _ _ _ _ h5 (by simp; omega) _ ?_
      have hm : j % sz < sz := Nat.mod_lt _ hsz
      have hdm := Nat.div_add_mod j sz
      rw [Nat.mul_comm] at hdm
      refine List.mem_iff_getElem?.2 ⟨j % sz, ?_⟩
      rw [List.getElem?_take, if_pos hm, List.getElem?_drop, hdm, List.getElem?_eq_getElem]
    have hst := run_storeCells_at P g 0 e cs 0 cur w hg (by omega) hoc
    have hrun : (Builtin.copy_ #[t, t] ty #[v, .slice p xs.length cp]).run P w = .ok (vi xs.length) (w.setRow g (cur.toList.take 0 ++ cs ++ cur.toList.drop (0 + cs.length)).toArray) := by
      have hst' : (storeCells (⟨g, 0, none⟩ : Addr) cs 0).run P w = .ok () (w.setRow g (cur.toList.take 0 ++ cs ++ cur.toList.drop (0 + cs.length)).toArray) := hst
      have hfc' : (Builtin.firstCells i.size xs.length (.slice p xs.length cp)).run P w = .ok cs.toArray w := by rw [hsz']; exact hfc
      subst hv
      simp [Builtin.copy_, run_underlying ht.h, Builtin.lenOf, sizeOf, typeInfo, hi, hfc', hst', goInt]
    refine Wl.val (w' := w.setRow g (cur.toList.take 0 ++ cs ++ cur.toList.drop (0 + cs.length)).toArray) ?_ (c _ ⟨cs, ⟨hcl, .inr ⟨g, cap, _, hv, hb, setRow_heap w g cur _ e _ hg, h1, h2, ?_, ?_⟩⟩, fun i x hx => ?_⟩ (Chg.setRow rfl) (by simp))
    · simp only [execOp, resolve, Sem.run_bind, Sem.run_pure, Result.andThen_ok, invoke, builtin, List.map_toArray, List.map_cons, List.map_nil, hx, hy, hrun]
    · simp; omega
    · rw [← hcl]; simp
    · refine hR.mo (fun b => Pe b ∧ g ≠ b) _ _ _ _ (fun b _ hb => ⟨hb.1, fun e => hb.2 (by rw [hv] at e; simpa [Value.ownBlock] using e)⟩) ?_
      exact hR.st _ _ _ _ _ (Chg.keep (M := fun b => b = g) (Chg.setRow rfl) fun b _ hb e => hb.2 e.symm) (hp x _ (hel i x hx))
end
end Go.Proofs.YthppadlcejpgbaaGreatDoor.Wk

namespace Go.Proofs.YthppadlcejpgbaaGreatDoor
open Go Wk
open Go.RowKit (Below)
attribute [local irreducible] Go.Calls

abbrev nilS : Value := .slice none 0 0
/-- The replacer's cells: what stands for a quote, what for a stroke, the texts that are replaced. -/
def repC (a b t : Value) : List Value := List.replicate 34 nilS ++ a :: (List.replicate 57 nilS ++ b :: (List.replicate 163 nilS ++ [t]))
abbrev tRep : TypeId := 138
instance und136 : Und Tryz.prog 136 (.array 256 61) := ⟨Tryz.underlying136⟩
instance elt136 : ElT Tryz.prog 136 256 6144 true (.agg (Array.replicate 256 nilS)) := ElT.mk' (by kernel_rfl) (by kernel_rfl) (by kernel_rfl)
instance elt138 : ElT Tryz.prog tRep 257 6168 true (.agg (Array.replicate 257 nilS)) := ElT.mk' (by kernel_rfl) (by kernel_rfl) (by kernel_rfl)
instance fld138_0 : Fld Tryz.prog tRep 0 0 136 := ⟨⟨_, _, Tryz.underlying138, rfl, rfl, rfl⟩⟩
instance fld138_1 : Fld Tryz.prog tRep 1 256 44 := ⟨⟨_, _, Tryz.underlying138, rfl, rfl, rfl⟩⟩
instance conc139 : Conc Tryz.prog 139 := ⟨by kernel_rfl⟩
set_option maxRecDepth 10000 in
theorem repC_len (a b t : Value) : (repC a b t).length = 257 := rfl
set_option maxRecDepth 10000 in
theorem repC_34 (a b t : Value) : (repC a b t)[34]? = some a := rfl
set_option maxRecDepth 10000 in
theorem repC_92 (a b t : Value) : (repC a b t)[92]? = some b := rfl
set_option maxRecDepth 10000 in
theorem repC_t (a b t : Value) : (repC a b t)[256]? = some t := rfl
set_option maxRecDepth 10000 in
theorem repC_s34 (a b t a' : Value) : (repC a b t).set 34 a' = repC a' b t := rfl
set_option maxRecDepth 10000 in
theorem repC_s92 (a b t b' : Value) : (repC a b t).set 92 b' = repC a b' t := rfl
set_option maxRecDepth 10000 in
theorem repC_st (a b t t' : Value) : (repC a b t).set 256 t' = repC a b t' := rfl
theorem repC_o (a b t : Value) {k : Nat} (hk : k < 256) (h1 : k ≠ 34) (h2 : k ≠ 92) : (repC a b t)[k]? = some nilS := by
  unfold repC
  rcases Nat.lt_or_ge k 34 with h | h
  · rw [List.getElem?_append_left (by simpa using h), List.getElem?_replicate, if_pos h]
  rw [List.getElem?_append_right (by simpa using h), List.length_replicate]
  obtain ⟨j, rfl⟩ : ∃ j, k = 35 + j := ⟨k - 35, by omega⟩
  rw [show 35 + j - 34 = j + 1 by omega, List.getElem?_cons_succ]
  rcases Nat.lt_or_ge j 57 with h | h
  · rw [List.getElem?_append_left (by simpa using h), List.getElem?_replicate, if_pos h]
  rw [List.getElem?_append_right (by simpa using h), List.length_replicate]
  obtain ⟨i, rfl⟩ : ∃ i, j = 58 + i := ⟨j - 58, by omega⟩
  rw [show 58 + i - 57 = i + 1 by omega, List.getElem?_cons_succ]
  rw [List.getElem?_append_left (by simp; omega), List.getElem?_replicate, if_pos (by omega)]
theorem repC_one {a b t : Value} (ha : a.oneCell' = true) (hb : b.oneCell' = true) (ht : t.oneCell' = true) : ∀ c ∈ repC a b t, c.oneCell' = true := by
  intro c hc
  unfold repC at hc
  simp only [List.mem_append, List.mem_cons, List.mem_replicate, List.mem_singleton] at hc
  rcases hc with ⟨_, rfl⟩ | rfl | ⟨_, rfl⟩ | rfl | ⟨_, rfl⟩ | rfl | hc <;> first | rfl | assumption | (simp at hc)
theorem run_buildRep {w : World} {a : Option Addr} {l c : Nat} : (Instr.build tRep #[(1, .slice a l c)]).run Tryz.prog w = .ok (.agg (repC nilS nilS (.slice a l c)).toArray) w := by kernel_rfl
/-- A replacer of quotes and strokes. -/
def RepB (Pb : Nat → Prop) (w : World) (b : Nat) : Prop :=
  ∃ s34 s92 tv, Pb b ∧ Bk w b tRep (repC s34 s92 tv) ∧ RdS (one by8) 1 Pb w s34 [92, 34] ∧ RdS (one by8) 1 Pb w s92 [92, 92] ∧ RdS (one vs) 1 Pb w tv [[92], [34]]
theorem RepB.keep {Pb : Nat → Prop} {w w' : World} {b : Nat} (h : RepB Pb w b) (hk : Keep Pb w w') : RepB Pb w' b := by
  obtain ⟨s34, s92, tv, h0, h1, h2, h3, h4⟩ := h
  exact ⟨s34, s92, tv, h0, h1.keep hk h0, h2.keep (stable_one _) hk, h3.keep (stable_one _) hk, h4.keep (stable_one _) hk⟩
theorem RepB.mono {Pb Pb' : Nat → Prop} {w : World} {b : Nat} (h : RepB Pb w b) (hP : ∀ k, k < w.heap.size → Pb k → Pb' k) : RepB Pb' w b := by
  obtain ⟨s34, s92, tv, h0, h1, h2, h3, h4⟩ := h
  exact ⟨s34, s92, tv, hP b h1.lt h0, h1, h2.mono (mono_one _) hP, h3.mono (mono_one _) hP, h4.mono (mono_one _) hP⟩
section
variable {P : Program} {n : Nat} {ds : List Deferred} {Q : Po} {F : Fr} {w : World} {ops rest : List Oper} {d : Nat} {ty t t' e : TypeId} {pos : String} {aft : Array Edge} {x : Operand}
theorem Wk.Wl.buildG {ps : List (Nat × Operand)} {parts : List (Nat × Value)} {u : Value}
    (hps : ps.map (fun p => (p.1, ev n F p.2)) = parts) (hr : (Instr.build t parts.toArray).run P w = .ok u w) (c : Wl P n ds Q ops rest (upd F d u) w) : Wl P n ds Q ops (⟨some d, .build t ps.toArray, ty, pos, aft, none⟩ :: rest) F w := by
  refine Wl.val ?_ c
  subst hps
  simp only [execOp, List.map_toArray, Sem.run_bind]
  rw [hr]; rfl
theorem run_eqGuard_sl {op : BinOp} {x y : Operand} {a a' : Option Addr} {l l' c c' : Nat} : (eqGuard op t x y (.slice a l c) (.slice a' l' c')).run P w = .ok () w := by
  unfold eqGuard; split <;> simp
/-- A slice against nil. -/
theorem Wk.Wl.seqNil {a : Option Addr} {l c : Nat} [ht : Und P t (.slice e)] (hx : ev n F x = .slice a l c) (k : Wl P n ds Q ops rest (upd F d (.bool a.isNone)) w) : Wl P n ds Q ops (⟨some d, .binOp .eql t x (.const (.slice none 0 0)) t', ty, pos, aft, none⟩ :: rest) F w := by
  refine Wl.val ?_ k
  have hb : (binOp .eql t (.slice a l c) (.slice none 0 0)).run P w = .ok (.bool a.isNone) w := by
    have h : ∀ d, (Op.equalIn (d + 1) t (.slice a l c) (.slice none 0 0)).run P w = .ok a.isNone w := fun d => by
      cases a <;> simp [Op.equalIn, run_underlying ht.h]
    simp only [binOp]
    simp [Op.equal, Op.maxDepth, h 9999]
  simp only [execOp, hx, ev_const, Sem.run_bind, run_eqGuard_sl, Result.andThen_ok, hb, Sem.run_pure]
theorem Wk.Wl.sneNil {a : Option Addr} {l c : Nat} [ht : Und P t (.slice e)] (hx : ev n F x = .slice a l c) (k : Wl P n ds Q ops rest (upd F d (.bool !a.isNone)) w) : Wl P n ds Q ops (⟨some d, .binOp .neq t x (.const (.slice none 0 0)) t', ty, pos, aft, none⟩ :: rest) F w := by
  refine Wl.val ?_ k
  have hb : (binOp .neq t (.slice a l c) (.slice none 0 0)).run P w = .ok (.bool !a.isNone) w := by
    have h : ∀ d, (Op.equalIn (d + 1) t (.slice a l c) (.slice none 0 0)).run P w = .ok a.isNone w := fun d => by
      cases a <;> simp [Op.equalIn, run_underlying ht.h]
    simp only [binOp]
    simp [Op.equal, Op.maxDepth, h 9999]
  simp only [execOp, hx, ev_const, Sem.run_bind, run_eqGuard_sl, Result.andThen_ok, hb, Sem.run_pure]
end
theorem rd_at {α : Type} {f : α → Value} {Pb : Nat → Prop} {w : World} {v : Value} {xs : List α} (h : RdS (one f) 1 Pb w v xs) : RdS (one f) 1 (fun b => Pb b ∧ b < w.heap.size) w v xs := by
  rcases h with h | h | ⟨b, off, c2, cur, e, fr, hv, hb, hh, h⟩
  · exact .inl h
  · exact .inr (.inl h)
  · exact .inr (.inr ⟨b, off, c2, cur, e, fr, hv, ⟨hb, heap_lt hh⟩, hh, h⟩)
theorem setRange_all {cs new : List Value} (h : cs.length = new.length) : setRange cs 0 new = new := by
  unfold setRange; simp [h]
theorem zero_len : (Array.replicate 257 nilS).toList.length = 257 := by rw [Array.toList_replicate, List.length_replicate]
/-- The texts that are replaced, as they come. -/
def toR : Nat → List (List UInt8)
  | 0 => []
  | 1 => [[92]]
  | _ => [[92], [34]]
abbrev oldL : List (List UInt8) := [[34], [92, 34], [92], [92, 92]]
set_option maxHeartbeats 2000000 in
theorem build_spec {Pr : Nat → Prop} {w : World} {R : Nat} {ov c0 c1 c2 c3 : Value} (hov : RdS (one vs) 1 Pr w ov oldL) (hb : Bk w R 101 [c0, c1, c2, c3, ov]) :
    Calls Tryz.prog 71 #[.pointer (some ⟨R, 0, none⟩)] w (Ret fun r w' => ∃ b, r = .iface 139 (.pointer (some ⟨b, 0, none⟩)) ∧ RepB (fun k => w.heap.size ≤ k) w' b ∧ New w w') := by
  obtain ⟨oa, oc, rfl, _, _⟩ := hov.form
  have hq : IntKind.i64.wrap (((4 : Nat) : Int).tdiv 2) = 2 := by decide
  refine calls_of_Wc Tryz.func71 rfl Tryz.ntmps71 rfl ?_
  (repeat' (first | refine Wl.moveE (by conv => { lhs; whnf }) ?_ | refine Wl.assignE (by conv => { lhs; whnf }) ?_ | refine Wl.nil ?_ | refine Qseq.normal ?_ | refine Wc.seq ?_ | refine Wc.region ?_ | refine Wl.nilP rfl ?_ | refine Wl.fieldAddr rfl rfl ?_))
  refine Wl.load1 rfl (hb.cell (o := 4) rfl) ?_
  (repeat' (first | refine Wl.moveE (by conv => { lhs; whnf }) ?_ | refine Wl.assignE (by conv => { lhs; whnf }) ?_ | refine Wl.nil ?_ | refine Wl.guardN rfl rfl ?_ | refine Wl.pickFE rfl (by conv => { lhs; whnf }) ?_ | refine Wl.lenS rfl ?_ | refine Qseq.normal ?_ | refine Wc.seq ?_ | refine Wc.region ?_ | refine Wc.block ?_ | refine Wc.skip ?_ | refine Wc.condF rfl ?_ | (refine Wl.eql rfl rfl (fun _ => ?_) (fun _ => ?_) <;> (first | (exfalso; contradiction) | skip))))
  refine Wc.loop (σ := Nat) (fun k => [(3, .slice oa 4 oc), (4, .bool (Nat.beq k 0)), (5, vi ((2 * k : Nat) : Int))]) (fun k w' => k ≤ 2 ∧ w = w') (fun k => 2 - k) 0 ⟨rfl, rfl, rfl, trivial⟩ ⟨by omega, rfl⟩ ?_
  rintro k G _ ⟨hk, rfl⟩
  simp only [upds]
  have hk3 : k = 0 ∨ k = 1 ∨ k = 2 := by omega
  rcases hk3 with rfl | rfl | rfl
  · (repeat' (first | refine Wl.moveE (by conv => { lhs; whnf }) ?_ | refine Wl.nil ?_ | refine Wl.lenS rfl ?_ | refine Qseq.normal ?_ | refine Wc.seq ?_ | refine Wc.region ?_ | refine Wc.block ?_ | refine Wc.skip ?_ | refine Wc.condT rfl ?_ | (refine Wl.lss rfl rfl (fun _ => ?_) (fun _ => ?_) <;> (first | (exfalso; omega) | skip))))
    refine Wl.idxLoadV hov rfl rfl (by omega) rfl rfl rfl fun p => ?_
    (repeat' (first | refine Wl.moveE (by conv => { lhs; whnf }) ?_ | refine Wl.nil ?_ | refine Wl.lenStr rfl ?_ | refine Qseq.normal ?_ | refine Wc.seq ?_ | refine Wc.region ?_ | refine Wc.skip ?_ | refine Wc.condF rfl ?_ | refine Wl.add rfl rfl (by omega) (by omega) ?_ | (refine Wl.neq rfl rfl (fun _ => ?_) (fun _ => ?_) <;> (first | (exfalso; contradiction) | skip))))
    refine Wl.idxLoadV hov rfl rfl (by omega) rfl rfl rfl fun p => ?_
    (repeat' (first | refine Wl.moveE (by conv => { lhs; whnf }) ?_ | refine Wl.assignE (by conv => { lhs; whnf }) ?_ | refine Wl.nil ?_ | refine Wl.lenStr rfl ?_ | refine Qseq.normal ?_ | refine Wc.region ?_ | refine Qblk.normal ?_ | refine Wc.condT rfl ?_ | refine Wl.add rfl rfl (by omega) (by omega) ?_ | (refine Wl.neq rfl rfl (fun _ => ?_) (fun _ => ?_) <;> (first | (exfalso; contradiction) | skip))))
    exact Qloop.normal 1 ⟨rfl, rfl, rfl, trivial⟩ ⟨by omega, rfl⟩ (by omega)
  · (repeat' (first | refine Wl.moveE (by conv => { lhs; whnf }) ?_ | refine Wl.nil ?_ | refine Wl.lenS rfl ?_ | refine Qseq.normal ?_ | refine Wc.seq ?_ | refine Wc.region ?_ | refine Wc.block ?_ | refine Wc.skip ?_ | refine Wc.condT rfl ?_ | (refine Wl.lss rfl rfl (fun _ => ?_) (fun _ => ?_) <;> (first | (exfalso; omega) | skip))))
    refine Wl.idxLoadV hov rfl rfl (by omega) rfl rfl rfl fun p => ?_
    (repeat' (first | refine Wl.moveE (by conv => { lhs; whnf }) ?_ | refine Wl.nil ?_ | refine Wl.lenStr rfl ?_ | refine Qseq.normal ?_ | refine Wc.seq ?_ | refine Wc.region ?_ | refine Wc.skip ?_ | refine Wc.condF rfl ?_ | refine Wl.add rfl rfl (by omega) (by omega) ?_ | (refine Wl.neq rfl rfl (fun _ => ?_) (fun _ => ?_) <;> (first | (exfalso; contradiction) | skip))))
    refine Wl.idxLoadV hov rfl rfl (by omega) rfl rfl rfl fun p => ?_
    (repeat' (first | refine Wl.moveE (by conv => { lhs; whnf }) ?_ | refine Wl.assignE (by conv => { lhs; whnf }) ?_ | refine Wl.nil ?_ | refine Wl.lenStr rfl ?_ | refine Qseq.normal ?_ | refine Wc.region ?_ | refine Qblk.normal ?_ | refine Wc.condT rfl ?_ | refine Wl.add rfl rfl (by omega) (by omega) ?_ | (refine Wl.neq rfl rfl (fun _ => ?_) (fun _ => ?_) <;> (first | (exfalso; contradiction) | skip))))
    exact Qloop.normal 2 ⟨rfl, rfl, rfl, trivial⟩ ⟨by omega, rfl⟩ (by omega)
  · (repeat' (first | refine Wl.moveE (by conv => { lhs; whnf }) ?_ | refine Wl.nil ?_ | refine Wl.lenS rfl ?_ | refine Qseq.normal ?_ | refine Wc.seq ?_ | refine Wc.region ?_ | refine Wc.skip ?_ | refine Wc.exit ?_ | refine Qseq.exit ?_ | refine Qblk.hit ?_ | refine Qloop.exit ?_ | refine Wc.condF rfl ?_ | (refine Wl.lss rfl rfl (fun _ => ?_) (fun _ => ?_) <;> (first | (exfalso; omega) | skip))))
    refine Wl.quoW rfl rfl (by omega) ?_
    rw [hq]
    refine Wl.make0 (R := one vs) (Pe := fun _ => False) rfl rfl (by omega) (by decide) (by omega) fun tv w1 ho1 n1 => ?_
    obtain ⟨ta, tc, rfl, _, _⟩ := ho1.form
    refine Wl.buildG rfl run_buildRep ?_
    refine Wl.alloc fun w2 b2 n2 s2 => ?_
    refine Wl.storeB (new := repC nilS nilS (.slice ta 0 tc)) b2 rfl rfl rfl (repC_len _ _ _) (by rw [Nat.zero_add]; exact Nat.le_of_eq zero_len.symm) (repC_one rfl rfl rfl) fun w3 b3 c3 s3 => ?_
    rw [setRange_all (by rw [repC_len]; exact zero_len)] at b3
    have hl1 := n1.size
    have ho3 : OwnS (one vs) 9 1 (fun k => w.heap.size ≤ k ∧ k ≠ w1.heap.size) (fun _ => False) w3 (.slice ta 0 tc) [] := ((ho1.mono goodStr.mo (fun k hk h => ⟨h, by omega⟩) (fun _ _ h => h)).keepP n2.keep).keepP (c3.keep fun k _ hk e => hk.2 e)
    have n3 : New w w3 := Chg.trans n1 (Chg.trans n2.any c3 (M := fun k => k = w1.heap.size) (fun k hk e => e)) (fun k hk e => by omega)
    obtain ⟨B, hB⟩ : ∃ B, B = w1.heap.size := ⟨_, rfl⟩
    rw [← hB] at b3 ho3 ⊢
    have hBw : w.heap.size ≤ B := by omega
    have hB3 : B < w3.heap.size := b3.lt
    clear b2 c3 s3 s2 n2 ho1 n1 hl1
    (repeat' (first | refine Wl.moveE (by conv => { lhs; whnf }) ?_ | refine Wl.assignE (by conv => { lhs; whnf }) ?_ | refine Wl.nil ?_ | refine Wl.lenS rfl ?_ | refine Qseq.normal ?_ | refine Wc.seq ?_ | refine Wc.region ?_ | refine Wc.block ?_ | refine Wl.sub rfl rfl (by omega) (by omega) ?_))
    refine Wc.loop (σ := Nat × Value × Value × Value) (fun x => [(3, .slice oa 4 oc), (11, .pointer (some ⟨B, 0, none⟩)), (12, vi (2 - 2 * (x.1 : Int)))])
      (fun x w' => x.1 ≤ 2 ∧ Bk w' B tRep (repC x.2.1 x.2.2.1 x.2.2.2) ∧ OwnS (one vs) 9 1 (fun k => w.heap.size ≤ k ∧ k ≠ B) (fun _ => False) w' x.2.2.2 (toR x.1) ∧ (x.1 = 0 → x.2.2.1 = nilS) ∧ (x.1 ≤ 1 → x.2.1 = nilS) ∧
        (1 ≤ x.1 → RdS (one by8) 1 (fun k => w.heap.size ≤ k ∧ x.2.2.2.ownBlock ≠ some k ∧ k ≠ B) w' x.2.2.1 [92, 92]) ∧ (2 ≤ x.1 → RdS (one by8) 1 (fun k => w.heap.size ≤ k ∧ x.2.2.2.ownBlock ≠ some k ∧ k ≠ B) w' x.2.1 [92, 34]) ∧ New w w') (fun x => 2 - x.1) (0, nilS, nilS, .slice ta 0 tc) ⟨rfl, rfl, rfl, trivial⟩ ⟨by omega, b3, ho3, fun _ => rfl, fun _ => rfl, fun h => by omega, fun h => by omega, n3⟩ ?_
    rintro ⟨k, va, vb, vt⟩ G w4 ⟨hk, b4, ho4, hvb, hva, hrb, hra, n4⟩
    dsimp only at hk b4 ho4 hvb hva hrb hra
    clear b3 ho3 hB3
    simp only [upds]
    have hk3 : k = 0 ∨ k = 1 ∨ k = 2 := by omega
    have hsz4 := n4.size
    rcases hk3 with rfl | rfl | rfl
    · (repeat' (first | refine Wl.moveE (by conv => { lhs; whnf }) ?_ | refine Wl.nil ?_ | refine Qseq.normal ?_ | refine Wc.seq ?_ | refine Wc.region ?_ | refine Wc.block ?_ | refine Wc.skip ?_ | refine Wc.condT rfl ?_ | (refine Wl.geq rfl rfl (fun _ => ?_) (fun _ => ?_) <;> (first | (exfalso; omega) | skip))))
      refine Wl.idxLoadV (hov.keep (stable_one _) n4.keep) rfl rfl (by omega) rfl rfl rfl fun p => ?_
      refine Wl.idxStr (b := 92) rfl rfl (by omega) rfl ?_
      (repeat' (first | refine Wl.moveE (by conv => { lhs; whnf }) ?_ | refine Wl.assignE (by conv => { lhs; whnf }) ?_ | refine Wl.nil ?_ | refine Qseq.normal ?_ | refine Wc.seq ?_ | refine Wc.region ?_ | refine Wl.add rfl rfl (by omega) (by omega) ?_))
      refine Wl.idxLoadV (hov.keep (stable_one _) n4.keep) rfl rfl (by omega) rfl rfl rfl fun p => ?_
      (repeat' (first | refine Wl.moveE (by conv => { lhs; whnf }) ?_ | refine Wl.assignE (by conv => { lhs; whnf }) ?_ | refine Wl.nil ?_ | refine Qseq.normal ?_ | refine Wc.seq ?_ | refine Wc.region ?_ | refine Wl.fieldAddr rfl rfl ?_))
      refine Wl.idxArrP rfl rfl (by decide) (by decide) ?_
      refine Wl.load1 rfl (b4.cell (o := 92) (repC_92 _ _ _)) ?_
      obtain rfl := hvb rfl
      obtain rfl := hva (by omega)
      refine Wl.seqNil rfl ?_
      (repeat' (first | refine Wl.nil ?_ | refine Qseq.normal ?_ | refine Wc.region ?_ | refine Wc.condT rfl ?_ | refine Wl.fieldAddr rfl rfl ?_))
      refine Wl.load1 rfl (b4.cell (o := 256) (repC_t _ _ _)) ?_
      (repeat' (refine Wl.moveE (by conv => { lhs; whnf }) ?_))
      refine Wl.buildSlice1 (R := one by8) (y := 92) (Pe := fun _ => False) goodR8 rfl rfl rfl rfl (by omega) (by omega) fun v5 w5 ho5 n5 s5 hb5 => ?_
      refine Wl.bytesStr (ho5.rd (mono_one _)) rfl ?_
      have ho45 := ho4.keepP n5.keep
      have b5 := b4.chg n5 id
      refine Wl.append1 (y := [92]) goodStr ho45 rfl rfl rfl rfl rfl (by omega) (by omega) (by decide) (by decide) rfl rfl fun v6 w6 p ho6 hc6 hv6 => ?_
      have b6 := b5.chg hc6 (fun e => (ho45.lt e).1.2 rfl)
      have n6 : New w w6 := Chg.trans (New.trans n4 n5) hc6 fun x hx e => by have := (ho45.lt e).1.1; omega
      have hsz6 := n6.size
      have hsz5 := n5.size
      have hsc6 := hc6.size
      refine Wl.fieldAddr rfl rfl ?_
      refine Wl.store1 b6 rfl (by rw [repC_len]; decide) rfl (ho6.form.elim fun a h => h.elim fun c h => by rw [h.1]; rfl) fun w7 b7 c7 => ?_
      rw [show 0 + 256 = 256 from rfl, repC_st] at b7
      have ho7 := (ho6.mono goodStr.mo (Pb' := fun k => w.heap.size ≤ k ∧ k ≠ B) (Pe' := fun _ => False) (fun x _ hx => by rcases hx with hx | hx; exact hx; exact ⟨by omega, by have := b5.lt; omega⟩) (fun _ _ h => h)).keepP (c7.keep fun x _ hx e => hx.2 e)
      have n7 : New w w7 := Chg.trans n6 c7 fun x hx e => by omega
      have hsz7 := c7.size
      (repeat' (first | refine Wl.moveE (by conv => { lhs; whnf }) ?_ | refine Wl.nil ?_ | refine Qseq.normal ?_ | refine Wc.region ?_))
      refine Wl.strBytes (l := [92, 92]) rfl (by decide) fun w8 cap8 C8 fr8 hC8 htk8 hCs8 n8 s8 hr8 => ?_
      have b8 := b7.chg n8 id
      have hob : ∀ x, v6.ownBlock = some x → x < w7.heap.size := fun x hx => (ho7.lt hx).2
      (repeat' (refine Wl.fieldAddr rfl rfl ?_))
      refine Wl.idxArrP rfl rfl (by decide) (by decide) ?_
      refine Wl.store1 b8 rfl (by rw [repC_len]; decide) rfl rfl fun w9 b9 c9 => ?_
      rw [show (((92 : UInt8).toNat : Int)).toNat = 92 from rfl, repC_s92] at b9
      have ho9 := (ho7.keepP n8.keep).keepP (c9.keep fun x _ hx e => hx.2 e)
      have hr9 : RdS (one by8) 1 (fun k => w.heap.size ≤ k ∧ v6.ownBlock ≠ some k ∧ k ≠ B) w9 _ _ := (hr8.mono (mono_one _) (Pb' := fun k => w7.heap.size ≤ k) (fun _ _ h => h)).keep (stable_one _) (c9.keep fun x _ hx e => by have := b7.lt; omega) |>.mono (mono_one _) fun x _ hx => ⟨by omega, fun e => by have := hob x e; omega, by have := b7.lt; omega⟩
      have n9 : New w w9 := Chg.trans (New.trans n7 n8) c9 fun x hx e => by omega
      (repeat' (first | refine Wl.moveE (by conv => { lhs; whnf }) ?_ | refine Wl.assignE (by conv => { lhs; whnf }) ?_ | refine Wl.nil ?_ | refine Qseq.normal ?_ | refine Wc.region ?_ | refine Qblk.normal ?_ | refine Wl.sub rfl rfl (by omega) (by omega) ?_))
      exact Qloop.normal (1, nilS, .slice (some ⟨w7.heap.size, 0, none⟩) ([92, 92] : List UInt8).length cap8, v6) ⟨rfl, rfl, rfl, trivial⟩ ⟨by dsimp only; omega, b9, ho9, fun (h : (1 : Nat) = 0) => absurd h (by omega), fun _ => rfl, fun _ => hr9, fun (h : (2 : Nat) ≤ 1) => absurd h (by omega), n9⟩ (by dsimp only; omega)
    · (repeat' (first | refine Wl.moveE (by conv => { lhs; whnf }) ?_ | refine Wl.nil ?_ | refine Qseq.normal ?_ | refine Wc.seq ?_ | refine Wc.region ?_ | refine Wc.block ?_ | refine Wc.skip ?_ | refine Wc.condT rfl ?_ | (refine Wl.geq rfl rfl (fun _ => ?_) (fun _ => ?_) <;> (first | (exfalso; omega) | skip))))
      refine Wl.idxLoadV (hov.keep (stable_one _) n4.keep) rfl rfl (by omega) rfl rfl rfl fun p => ?_
      refine Wl.idxStr (b := 34) rfl rfl (by omega) rfl ?_
      (repeat' (first | refine Wl.moveE (by conv => { lhs; whnf }) ?_ | refine Wl.assignE (by conv => { lhs; whnf }) ?_ | refine Wl.nil ?_ | refine Qseq.normal ?_ | refine Wc.seq ?_ | refine Wc.region ?_ | refine Wl.add rfl rfl (by omega) (by omega) ?_))
      refine Wl.idxLoadV (hov.keep (stable_one _) n4.keep) rfl rfl (by omega) rfl rfl rfl fun p => ?_
      (repeat' (first | refine Wl.moveE (by conv => { lhs; whnf }) ?_ | refine Wl.assignE (by conv => { lhs; whnf }) ?_ | refine Wl.nil ?_ | refine Qseq.normal ?_ | refine Wc.seq ?_ | refine Wc.region ?_ | refine Wl.fieldAddr rfl rfl ?_))
      refine Wl.idxArrP rfl rfl (by decide) (by decide) ?_
      refine Wl.load1 rfl (b4.cell (o := 34) (repC_34 _ _ _)) ?_
      obtain rfl := hva (by omega)
      have hrb4 := hrb (by omega)
      refine Wl.seqNil rfl ?_
      (repeat' (first | refine Wl.nil ?_ | refine Qseq.normal ?_ | refine Wc.region ?_ | refine Wc.condT rfl ?_ | refine Wl.fieldAddr rfl rfl ?_))
      refine Wl.load1 rfl (b4.cell (o := 256) (repC_t _ _ _)) ?_
      (repeat' (refine Wl.moveE (by conv => { lhs; whnf }) ?_))
      refine Wl.buildSlice1 (R := one by8) (y := 34) (Pe := fun _ => False) goodR8 rfl rfl rfl rfl (by omega) (by omega) fun v5 w5 ho5 n5 s5 hb5 => ?_
      refine Wl.bytesStr (ho5.rd (mono_one _)) rfl ?_
      have ho45 := ho4.keepP n5.keep
      have b5 := b4.chg n5 id
      refine Wl.append1 (y := [34]) goodStr ho45 rfl rfl rfl rfl rfl (by omega) (by omega) (by decide) (by decide) rfl rfl fun v6 w6 p ho6 hc6 hv6 => ?_
      have b6 := b5.chg hc6 (fun e => (ho45.lt e).1.2 rfl)
      have n6 : New w w6 := Chg.trans (New.trans n4 n5) hc6 fun x hx e => by have := (ho45.lt e).1.1; omega
      have hsz6 := n6.size
      have hsz5 := n5.size
      have hsc6 := hc6.size
      refine Wl.fieldAddr rfl rfl ?_
      refine Wl.store1 b6 rfl (by rw [repC_len]; decide) rfl (ho6.form.elim fun a h => h.elim fun c h => by rw [h.1]; rfl) fun w7 b7 c7 => ?_
      rw [show 0 + 256 = 256 from rfl, repC_st] at b7
      have ho7 := (ho6.mono goodStr.mo (Pb' := fun k => w.heap.size ≤ k ∧ k ≠ B) (Pe' := fun _ => False) (fun x _ hx => by rcases hx with hx | hx; exact hx; exact ⟨by omega, by have := b5.lt; omega⟩) (fun _ _ h => h)).keepP (c7.keep fun x _ hx e => hx.2 e)
      have n7 : New w w7 := Chg.trans n6 c7 fun x hx e => by omega
      have hsz7 := c7.size
      (repeat' (first | refine Wl.moveE (by conv => { lhs; whnf }) ?_ | refine Wl.nil ?_ | refine Qseq.normal ?_ | refine Wc.region ?_))
      refine Wl.strBytes (l := [92, 34]) rfl (by decide) fun w8 cap8 C8 fr8 hC8 htk8 hCs8 n8 s8 hr8 => ?_
      have b8 := b7.chg n8 id
      have hob : ∀ x, v6.ownBlock = some x → x < w7.heap.size := fun x hx => (ho7.lt hx).2
      (repeat' (refine Wl.fieldAddr rfl rfl ?_))
      refine Wl.idxArrP rfl rfl (by decide) (by decide) ?_
      refine Wl.store1 b8 rfl (by rw [repC_len]; decide) rfl rfl fun w9 b9 c9 => ?_
      rw [show (((34 : UInt8).toNat : Int)).toNat = 34 from rfl, repC_s34] at b9
      have ho9 := (ho7.keepP n8.keep).keepP (c9.keep fun x _ hx e => hx.2 e)
      have hr9 : RdS (one by8) 1 (fun k => w.heap.size ≤ k ∧ v6.ownBlock ≠ some k ∧ k ≠ B) w9 _ _ := (hr8.mono (mono_one _) (Pb' := fun k => w7.heap.size ≤ k) (fun _ _ h => h)).keep (stable_one _) (c9.keep fun x _ hx e => by have := b7.lt; omega) |>.mono (mono_one _) fun x _ hx => ⟨by omega, fun e => by have := hob x e; omega, by have := b7.lt; omega⟩
      have n9 : New w w9 := Chg.trans (New.trans n7 n8) c9 fun x hx e => by omega
      (repeat' (first | refine Wl.moveE (by conv => { lhs; whnf }) ?_ | refine Wl.assignE (by conv => { lhs; whnf }) ?_ | refine Wl.nil ?_ | refine Qseq.normal ?_ | refine Wc.region ?_ | refine Qblk.normal ?_ | refine Wl.sub rfl rfl (by omega) (by omega) ?_))
      have hrb9 : RdS (one by8) 1 (fun k => w.heap.size ≤ k ∧ v6.ownBlock ≠ some k ∧ k ≠ B) w9 vb [92, 92] := by
        have h5 := rd_at (hrb4.keep (stable_one _) n5.keep)
        have h6 := h5.keep (stable_one _) (hc6.keep fun x _ hx e => hx.1.2.1 e)
        have h6' : RdS (one by8) 1 (fun k => w.heap.size ≤ k ∧ v6.ownBlock ≠ some k ∧ k ≠ B ∧ k < w5.heap.size) w6 vb [92, 92] := h6.mono (mono_one _) fun x _ hx => ⟨hx.1.1, fun e => by
          rcases hv6 with h | h
          · exact hx.1.2.1 (h ▸ e)
          · have := h x e; have := hx.2; omega, hx.1.2.2, hx.2⟩
        have h7 := h6'.keep (stable_one _) (c7.keep fun x _ hx e => hx.2.2.1 e)
        have h8 := h7.keep (stable_one _) n8.keep
        have h9 := h8.keep (stable_one _) (c9.keep fun x _ hx e => hx.2.2.1 e)
        exact h9.mono (mono_one _) fun x _ hx => ⟨hx.1, hx.2.1, hx.2.2.1⟩
      exact Qloop.normal (2, .slice (some ⟨w7.heap.size, 0, none⟩) ([92, 34] : List UInt8).length cap8, vb, v6) ⟨rfl, rfl, rfl, trivial⟩ ⟨by dsimp only; omega, b9, ho9, fun (h : (2 : Nat) = 0) => absurd h (by omega), fun (h : (2 : Nat) ≤ 1) => absurd h (by omega), fun _ => hrb9, fun _ => hr9, n9⟩ (by dsimp only; omega)
    · (repeat' (first | refine Wl.moveE (by conv => { lhs; whnf }) ?_ | refine Wl.nil ?_ | refine Qseq.normal ?_ | refine Wc.seq ?_ | refine Wc.region ?_ | refine Wc.exit ?_ | refine Qseq.exit ?_ | refine Qblk.hit ?_ | refine Qloop.exit ?_ | refine Wc.condF rfl ?_ | (refine Wl.geq rfl rfl (fun _ => ?_) (fun _ => ?_) <;> (first | (exfalso; omega) | skip))))
      refine Wl.mkIface rfl ?_
      (repeat' (first | refine Wl.assignE (by conv => { lhs; whnf }) ?_ | refine Wl.nil ?_ | refine Qseq.normal ?_ | refine Wc.ret ?_))
      refine Qfn.ret1 rfl rfl ⟨_, rfl, B, rfl, ⟨va, vb, vt, hBw, b4, (hra (by omega)).mono (mono_one _) fun _ _ h => h.1, (hrb (by omega)).mono (mono_one _) fun _ _ h => h.1, (ho4.rd goodStr.mo).mono (mono_one _) fun _ _ h => h.elim (fun h => h.1) fun h => h.elim⟩, n4⟩
end Go.Proofs.YthppadlcejpgbaaGreatDoor

namespace Go.Proofs.YthppadlcejpgbaaGreatDoor
open Go Wk
open Go.RowKit (Below)
attribute [local irreducible] Go.Calls

section
variable {P : Program} {n : Nat} {ds : List Deferred} {C : World → Prop} {K : Fr → Prop} {Q : Po} {F : Fr} {w : World} {ops rest : List Oper} {d : Nat} {ty t t' e : TypeId} {pos : String} {aft : Array Edge} {x y i : Operand}
theorem Wk.Wq.idxArrP {m bytes b : Nat} {agg : Bool} {z : Value} {k : IntKind} {j : Int} [ht : Und P t (.array m e)] [he : ElT P e 1 bytes agg z] (hx : ev n F x = .pointer (some ⟨b, 0, none⟩)) (hi : ev n F i = .int k j) (h0 : 0 ≤ j) (h1 : j < m)
    (c : Wq P n ds C K ops rest (upd F d (.pointer (some ⟨b, j.toNat, none⟩)))) : Wq P n ds C K ops (⟨some d, .indexAddr t x i, ty, pos, aft, none⟩ :: rest) F :=
  Wq.val (fun w _ => by simp only [execOp, hx, hi, Sem.run_bind, run_idxArrP ht.h he h0 h1, Result.andThen_ok, Sem.run_pure]) c
theorem Wk.Wq.sliceRow {g N j bytes : Nat} {agg : Bool} {z : Value} {k : IntKind} {lo : Operand} [ht : Und P t (.slice e)] [he : ElT P e 1 bytes agg z] (hx : ev n F x = .slice (some ⟨g, 0, none⟩) N N) (hl : ev n F lo = .int k j) (hj : j < N)
    (c : Wq P n ds C K ops rest (upd F d (.slice (some ⟨g, j, none⟩) (N - j) (N - j)))) : Wq P n ds C K ops (⟨some d, .slice t x (some lo) none none, ty, pos, aft, none⟩ :: rest) F := by
  refine Wq.val (fun w' _ => ?_) c
  have := run_sliceS (P := P) (w := w') (p := some ⟨g, 0, none⟩) (l := N) (cap := N) (lo := some (.int k j)) (hi := none) (a := j) (b := N) ht.h he (.inr ⟨k, rfl⟩) (.inl ⟨rfl, rfl⟩) (by omega) (Nat.le_refl _)
  rw [if_neg (by omega)] at this
  simp only [Option.map_some, addr_add, Nat.zero_add, Nat.mul_one] at this
  simp only [execOp, hx, hl, Option.map_none, Option.map_some, Sem.run_bind, this, Result.andThen_ok, Sem.run_pure]
theorem Wk.Wl.idxRow {g N j bytes : Nat} {agg : Bool} {z : Value} {k : IntKind} [ht : Und P t (.slice e)] [he : ElT P e 1 bytes agg z] (hx : ev n F x = .slice (some ⟨g, 0, none⟩) N N) (hi : ev n F i = .int k j) (hj : j < N)
    (c : Wl P n ds Q ops rest (upd F d (.pointer (some ⟨g, j, none⟩))) w) : Wl P n ds Q ops (⟨some d, .indexAddr t x i, ty, pos, aft, none⟩ :: rest) F w := by
  refine Wl.val ?_ c
  have := run_indexAt (P := P) (w := w) (a := ⟨g, 0, none⟩) (l := N) (cap := N) (k := k) (j := (j : Int)) ht.h he (by omega) (by omega)
  rw [addr_add, Int.toNat_natCast, Nat.zero_add, Nat.mul_one] at this
  simp only [execOp, hx, hi, Sem.run_bind, this, Result.andThen_ok, Sem.run_pure]
/-- copy(b[j:], s) into a row of bytes. -/
theorem Wk.Wl.copyRow {g o dl dc bytes : Nat} {agg : Bool} {z u : Value} {Pr : Nat → Prop} {xs : List UInt8} {cs : List Value} {T : TypeId} [ht : Und P t (.slice e)] [he : ElT P e 1 bytes agg z] (h : Bk w g T cs) (hr : RdS (one by8) 1 Pr w u xs) (hne : xs ≠ []) (hd : xs.length ≤ dl) (ho : o + xs.length ≤ cs.length)
    (hx : ev n F x = .slice (some ⟨g, o, none⟩) dl dc) (hy : ev n F y = u) (c : ∀ w', Bk w' g T (setRange cs o (xs.map by8)) → Chg (fun k => k = g) w w' → w'.heap.size = w.heap.size → Wl P n ds Q ops rest (upd F d (vi xs.length)) w') :
    Wl P n ds Q ops (⟨some d, .call { callee := .builtin .copy, args := #[x, y], argTypes := #[t, t] }, ty, pos, aft, none⟩ :: rest) F w := by
  obtain ⟨i, hi, hs, _, _⟩ := he.inf
  rcases hr with ⟨_, rfl⟩ | ⟨_, _, _, rfl, _⟩ | ⟨b, off, cap, cur, e', fr, rfl, hb, hh, h1, h2, h3, h4⟩
  · exact absurd rfl hne
  · exact absurd rfl hne
  · have hsrc : ∀ j v, (xs.map by8)[j]? = some v → w.cell? ((⟨b, off, none⟩ : Addr).add j) = some v := by
      intro j v hv
      rw [List.getElem?_map] at hv
      obtain ⟨q, hq, rfl⟩ := Option.map_eq_some_iff.1 hv
      have h5 := h4 j q hq
      simp only [one, Nat.mul_one] at h5
      have h6 := congrArg (fun q => q[0]?) h5
      simp only [List.getElem?_take, List.getElem?_drop] at h6
      rw [addr_add]
      simp only [World.cell?, hh]
      simpa using h6
    have hr := run_copy_row (P := P) w t t ty e g o dl dc ⟨b, off, none⟩ xs.length cap cs.toArray T (xs.map by8) ht.h (by rw [hi]; simp [hs]) h (by simp [Nat.min_eq_left hd]) hsrc (by simpa using ho) (by intro v hv; obtain ⟨q, _, rfl⟩ := List.mem_map.1 hv; rfl)
    refine Wl.val (w' := w.setRow g (setRange cs o (xs.map by8)).toArray) ?_ (c _ h.setRow (Chg.setRow rfl) (by simp))
    simp only [execOp, resolve, Sem.run_bind, Sem.run_pure, Result.andThen_ok, invoke, builtin, List.map_toArray, List.map_cons, List.map_nil, hx, hy, hr]
    simp [setRange, goInt]
/-- A call of an interface's method. -/
theorem Wk.Wl.invoke {recv : Operand} {name : String} {args : List Operand} {ts : Array TypeId} {v : Value} {us vs : List Value} {f : FuncId} {φ : Value → World → Prop}
    (hv : ev n F recv = v) (ha : args.map (ev n F) = us) (hm : ∀ w, (callMethod v name us.toArray).run P w = .ok (.enter f vs.toArray) w) (h : Calls P f vs.toArray w (Ret φ)) (k : ∀ r w', φ r w' → Wl P n ds Q ops rest (upd F d r) w') :
    Wl P n ds Q ops (⟨some d, .call { callee := .invoke recv name, args := args.toArray, argTypes := ts }, ty, pos, aft, none⟩ :: rest) F w := by
  unfold Wl
  refine wpList_plain rfl fun K hK => ?_
  unfold Oper.wp
  have e : (execOp (ev n F) ⟨some d, .call { callee := .invoke recv name, args := args.toArray, argTypes := ts }, ty, pos, aft, none⟩).run P w = .ok (.enter f vs.toArray) w := by
    subst ha
    simp only [execOp, resolve, Sem.run_bind, Sem.run_pure, Result.andThen_ok, Go.invoke, hv]
    have e1 : (#[v] ++ (List.map (ev n F) args).toArray).extract 1 (#[v] ++ (List.map (ev n F) args).toArray).size = (List.map (ev n F) args).toArray := by
      apply Array.ext'
      simp only [Array.toList_extract, Array.toList_append, List.size_toArray, Array.size_append]
      simp [List.take_of_length_le]
    simp only [List.map_toArray]
    rw [e1]
    simpa using hm w
  rw [act_eval', e, Oper.upon_enter]
  refine h.mono ?_
  rintro _ w'' ⟨v, rfl, hv⟩
  dsimp only
  refine hK _ _ ?_
  rw [act_putO]
  have := k v w'' hv
  unfold Wl at this
  exact this
end
theorem count_snoc {l : List UInt8} {i : Nat} {c : UInt8} (h : l[i]? = some c) (a : UInt8) : (l.take (i + 1)).count a = (l.take i).count a + if c = a then 1 else 0 := by
  rw [List.take_add_one, h, List.count_append, Option.toList_some, List.count_singleton]
  by_cases h : c = a <;> simp [h]
theorem esc_len : ∀ s : List UInt8, (s.flatMap esc).length = s.length + s.count 92 + s.count 34
  | [] => rfl
  | c :: s => by
    rw [List.flatMap_cons, List.length_append, esc_len s, List.count_cons, List.count_cons, List.length_cons]
    by_cases h1 : c = 34
    · subst h1; rw [show esc 34 = [92, 34] from rfl]; simp; omega
    · by_cases h2 : c = 92
      · subst h2; rw [show esc 92 = [92, 92] from rfl]; simp; omega
      · rw [show esc c = [c] from if_neg (by simp [h1, h2])]; simp [h1, h2]; omega
theorem esc_none {s : List UInt8} (g1 : s.count 92 = 0) (g2 : s.count 34 = 0) : s.flatMap esc = s := by
  replace g1 := List.count_eq_zero.1 g1
  replace g2 := List.count_eq_zero.1 g2
  induction s with
  | nil => rfl
  | cons c s ih =>
    rw [List.flatMap_cons, ih (fun h => g1 (by simp [h])) (fun h => g2 (by simp [h]))]
    rw [show esc c = [c] from if_neg (by rintro (e | e) <;> subst e <;> simp at g1 g2)]
    rfl
theorem Count_spec {w : World} (s : List UInt8) (c : UInt8) : Calls Tryz.prog 83 #[vs s, vs [c]] w (Ret fun r w' => r = vi (s.count c : Nat) ∧ w = w') := by
  refine (Tryz.strings_Count_one ⟨s.toArray⟩ c w).mono ?_
  rintro e w' ⟨rfl, rfl⟩
  exact ⟨_, rfl, rfl, rfl⟩
/-- What the replacer has for a byte. -/
theorem rep_at {Pb : Nat → Prop} {w : World} {b : Nat} (h : RepB Pb w b) (c : UInt8) : ∃ v, w.cell? ⟨b, c.toNat, none⟩ = some v ∧ ((c = 34 ∨ c = 92) ∧ (∃ a cp, v = .slice (some a) 2 cp) ∧ RdS (one by8) 1 Pb w v (esc c) ∨ ¬ (c = 34 ∨ c = 92) ∧ v = nilS) := by
  obtain ⟨s34, s92, tv, h0, h1, h2, h3, h4⟩ := h
  by_cases e34 : c = 34
  · subst e34
    refine ⟨s34, h1.cell (repC_34 _ _ _), .inl ⟨.inl rfl, ?_, h2⟩⟩
    obtain ⟨g, o, cp, e, _⟩ := rd_head h2 (by decide)
    exact ⟨_, cp, e⟩
  by_cases e92 : c = 92
  · subst e92
    refine ⟨s92, h1.cell (repC_92 _ _ _), .inl ⟨.inr rfl, ?_, h3⟩⟩
    obtain ⟨g, o, cp, e, _⟩ := rd_head h3 (by decide)
    exact ⟨_, cp, e⟩
  have hc := c.toNat_lt
  exact ⟨nilS, h1.cell (repC_o _ _ _ hc (fun e => e34 (UInt8.toNat_inj.1 e)) (fun e => e92 (UInt8.toNat_inj.1 e))), .inr ⟨fun e => e.elim e34 e92, rfl⟩⟩
theorem setRange_app {pre xs : List UInt8} {cs : List Value} : setRange (pre.map by8 ++ cs.drop pre.length) pre.length (xs.map by8) = (pre ++ xs).map by8 ++ cs.drop (pre.length + xs.length) := by
  unfold setRange
  rw [List.take_left' (by simp), List.length_map, List.drop_append, List.drop_eq_nil_of_le (by simp), List.nil_append, List.length_map, List.drop_drop, Nat.add_sub_cancel_left, List.map_append]
theorem set_app {pre : List UInt8} {cs : List Value} {c : UInt8} (h : pre.length < cs.length) : (pre.map by8 ++ cs.drop pre.length).set pre.length (by8 c) = (pre ++ [c]).map by8 ++ cs.drop (pre.length + 1) := by
  rw [List.set_append_right _ _ (by simp), List.length_map, Nat.sub_self, List.drop_eq_getElem_cons h, List.set_cons_zero, List.map_append]
  simp
theorem cell_keep {w w' : World} {b o : Nat} (h : w'.heap[b]? = w.heap[b]?) : w'.cell? ⟨b, o, none⟩ = w.cell? ⟨b, o, none⟩ := by
  simp only [World.cell?, h]
theorem not_pos (x : Nat) : (!decide (0 < x)) = decide (x = 0) := by by_cases h : x = 0 <;> simp [h] <;> omega
/-- The size that was reckoned behind k of the texts. -/
def sz1 (s : List UInt8) : Nat → Nat
  | 0 => s.length
  | 1 => s.length + s.count 92
  | _ => s.length + s.count 92 + s.count 34
set_option maxHeartbeats 4000000 in
theorem Replace_spec {Pb : Nat → Prop} {w : World} {b : Nat} {s : List UInt8} (h : RepB Pb w b) (hl : s.length ≤ 100000000) :
    Calls Tryz.prog 168 #[.pointer (some ⟨b, 0, none⟩), vs s] w (Ret fun r w' => r = vs (s.flatMap esc) ∧ New w w') := by
  have hc1 := List.count_le_length (a := (92 : UInt8)) (l := s)
  have hc2 := List.count_le_length (a := (34 : UInt8)) (l := s)
  have hrep := h
  obtain ⟨s34, s92, tv, h0, h1, h2, h3, h4⟩ := h
  obtain ⟨ta, tc, e, _, _⟩ := h4.form
  replace e : tv = .slice ta 2 tc := e
  subst e
  have hsl : (s.flatMap esc).length = s.length + s.count 92 + s.count 34 := esc_len s
  refine calls_of_Wc Tryz.func168 rfl Tryz.ntmps168 rfl ?_
  (repeat' (first | refine Wl.moveE (by conv => { lhs; whnf }) ?_ | refine Wl.assignE (by conv => { lhs; whnf }) ?_ | refine Wl.nil ?_ | refine Wl.lenStr rfl ?_ | refine Qseq.normal ?_ | refine Wc.seq ?_ | refine Wc.region ?_ | refine Wl.nilP rfl ?_ | refine Wl.fieldAddr rfl rfl ?_))
  refine Wl.load1 rfl (h1.cell (o := 256) (repC_t _ _ _)) ?_
  (repeat' (first | refine Wl.moveE (by conv => { lhs; whnf }) ?_ | refine Wl.assignE (by conv => { lhs; whnf }) ?_ | refine Wl.nil ?_ | refine Wl.lenS rfl ?_ | refine Wl.lenStr rfl ?_ | refine Qseq.normal ?_ | refine Wc.seq ?_ | refine Wc.region ?_ | refine Wc.block ?_ | refine Wc.condT rfl ?_ | refine Wc.condF rfl ?_ | refine Wl.nilP rfl ?_ | refine Wl.fieldAddr rfl rfl ?_ | refine Wl.mul rfl rfl (by omega) (by omega) ?_ | refine Wl.leq rfl rfl (fun _ => ?_) (fun _ => ?_)))
  refine Wl.load1 rfl (h1.cell (o := 256) (repC_t _ _ _)) ?_
  (repeat' (first | refine Wl.moveE (by conv => { lhs; whnf }) ?_ | refine Wl.nil ?_ | refine Wl.lenS rfl ?_ | refine Qseq.normal ?_ | refine Wc.block ?_))
  refine Wc.loop (σ := Nat) (fun k => [(0, .pointer (some ⟨b, 0, none⟩)), (1, vs s), (5, vi (sz1 s k : Nat)), (6, .bool (decide (0 < sz1 s k - s.length))), (30, .slice ta 2 tc), (31, vi 2), (32, vi k)]) (fun k w' => k ≤ 2 ∧ New w w') (fun k => 2 - k) 0 ⟨rfl, rfl, rfl, (show Value.bool false = Value.bool (decide (0 < s.length - s.length)) by rw [decide_eq_false (by omega)]), rfl, rfl, rfl, trivial⟩ ⟨by omega, Chg.refl _ _⟩ ?_
  rintro k G w' ⟨hk, n1⟩
  simp only [upds]
  have hk3 : k = 0 ∨ k = 1 ∨ k = 2 := by omega
  have z0 : sz1 s 0 = s.length := rfl
  have z1 : sz1 s 1 = s.length + s.count 92 := rfl
  rcases hk3 with rfl | rfl | rfl
  · (repeat' (first | refine Wl.nil ?_ | refine Qseq.normal ?_ | refine Wc.seq ?_ | refine Wc.region ?_ | refine Wc.block ?_ | refine Wc.skip ?_ | refine Wc.condT rfl ?_ | (refine Wl.lss rfl rfl (fun _ => ?_) (fun _ => ?_) <;> (first | (exfalso; omega) | skip))))
    refine Wl.idxLoadV (h4.keep (stable_one _) n1.keep) rfl rfl (by omega) rfl rfl rfl fun p => ?_
    (repeat' (first | refine Wl.moveE (by conv => { lhs; whnf }) ?_ | refine Wl.assignE (by conv => { lhs; whnf }) ?_ | refine Wl.nil ?_ | refine Qseq.normal ?_ | refine Wc.seq ?_ | refine Wc.region ?_))
    refine Wl.call (Count_spec s 92) rfl ?_
    rintro _ _ ⟨rfl, rfl⟩
    (repeat' (first | refine Wl.moveE (by conv => { lhs; whnf }) ?_ | refine Wl.assignE (by conv => { lhs; whnf }) ?_ | refine Wl.nil ?_ | refine Qseq.normal ?_ | refine Wc.seq ?_ | refine Wc.region ?_ | refine Wc.skip ?_ | refine Qblk.normal ?_ | refine Wc.condT rfl ?_ | refine Wc.condF rfl ?_ | refine Wl.add rfl rfl (by omega) (by omega) ?_ | refine Wl.neq rfl rfl (fun _ => ?_) (fun _ => ?_)))
    · have hz : s.count 92 ≠ 0 := by omega
      obtain ⟨ag, ac, e, _, _⟩ := h3.form
      replace e : s92 = .slice ag 2 ac := e
      subst e
      refine Wc.regionN rfl (by kernel_rfl) ?_
      (repeat' (refine Wq.moveE (by conv => { lhs; whnf }) ?_))
      refine Wq.idxStr (b := 92) rfl rfl (by omega) rfl ?_
      (repeat' (first | refine Wq.nilP rfl ?_ | refine Wq.fieldAddr rfl rfl ?_))
      refine Wq.idxArrP rfl rfl (by decide) (by decide) ?_
      refine Wq.load1 rfl (fun w2 hw => (h1.chg (n1.trans hw) id).cell (o := 92) (repC_92 _ _ _)) ?_
      (repeat' (first | refine Wq.assignE (by conv => { lhs; whnf }) ?_ | refine Wq.nil ?_ | refine Wq.lenS rfl ?_ | refine Wq.add rfl rfl (by omega) (by omega) ?_ | refine Wq.sub rfl rfl (by omega) (by omega) ?_ | refine Wq.mul rfl rfl (by omega) (by omega) ?_))
      intro w2 n2
      (repeat' (first | refine Wl.moveE (by conv => { lhs; whnf }) ?_ | refine Wl.assignE (by conv => { lhs; whnf }) ?_ | refine Wl.nil ?_ | refine Qseq.normal ?_ | refine Wc.region ?_ | refine Qblk.normal ?_ | refine Wl.add rfl rfl (by omega) (by omega) ?_))
      refine Qloop.normal 1 ⟨rfl, rfl, ?_, ?_, rfl, rfl, rfl, trivial⟩ ⟨by omega, n1.trans n2⟩ (by omega)
      · show vi _ = vi _
        simp only [sz1]
        congr 1; omega
      · show Value.bool true = Value.bool (decide _)
        rw [decide_eq_true (by simp only [sz1]; omega)]
    · have hz : s.count 92 = 0 := by omega
      refine Qloop.normal 1 ⟨rfl, rfl, ?_, ?_, rfl, rfl, rfl, trivial⟩ ⟨by omega, n1⟩ (by omega)
      · show vi _ = vi _
        simp only [sz1]
        congr 1; omega
      · show Value.bool (decide _) = Value.bool (decide _)
        congr 1
        rw [decide_eq_decide]
        simp only [sz1]; omega
  · (repeat' (first | refine Wl.nil ?_ | refine Qseq.normal ?_ | refine Wc.seq ?_ | refine Wc.region ?_ | refine Wc.block ?_ | refine Wc.skip ?_ | refine Wc.condT rfl ?_ | (refine Wl.lss rfl rfl (fun _ => ?_) (fun _ => ?_) <;> (first | (exfalso; omega) | skip))))
    refine Wl.idxLoadV (h4.keep (stable_one _) n1.keep) rfl rfl (by omega) rfl rfl rfl fun p => ?_
    (repeat' (first | refine Wl.moveE (by conv => { lhs; whnf }) ?_ | refine Wl.assignE (by conv => { lhs; whnf }) ?_ | refine Wl.nil ?_ | refine Qseq.normal ?_ | refine Wc.seq ?_ | refine Wc.region ?_))
    refine Wl.call (Count_spec s 34) rfl ?_
    rintro _ _ ⟨rfl, rfl⟩
    (repeat' (first | refine Wl.moveE (by conv => { lhs; whnf }) ?_ | refine Wl.assignE (by conv => { lhs; whnf }) ?_ | refine Wl.nil ?_ | refine Qseq.normal ?_ | refine Wc.seq ?_ | refine Wc.region ?_ | refine Wc.skip ?_ | refine Qblk.normal ?_ | refine Wc.condT rfl ?_ | refine Wc.condF rfl ?_ | refine Wl.add rfl rfl (by omega) (by omega) ?_ | refine Wl.neq rfl rfl (fun _ => ?_) (fun _ => ?_)))
    · have hz : s.count 34 ≠ 0 := by omega
      obtain ⟨ag, ac, e, _, _⟩ := h2.form
      replace e : s34 = .slice ag 2 ac := e
      subst e
      refine Wc.regionN rfl (by kernel_rfl) ?_
      (repeat' (refine Wq.moveE (by conv => { lhs; whnf }) ?_))
      refine Wq.idxStr (b := 34) rfl rfl (by omega) rfl ?_
      (repeat' (first | refine Wq.nilP rfl ?_ | refine Wq.fieldAddr rfl rfl ?_))
      refine Wq.idxArrP rfl rfl (by decide) (by decide) ?_
      refine Wq.load1 rfl (fun w2 hw => (h1.chg (n1.trans hw) id).cell (o := 34) (repC_34 _ _ _)) ?_
      (repeat' (first | refine Wq.assignE (by conv => { lhs; whnf }) ?_ | refine Wq.nil ?_ | refine Wq.lenS rfl ?_ | refine Wq.add rfl rfl (by omega) (by omega) ?_ | refine Wq.sub rfl rfl (by omega) (by omega) ?_ | refine Wq.mul rfl rfl (by omega) (by omega) ?_))
      intro w2 n2
      (repeat' (first | refine Wl.moveE (by conv => { lhs; whnf }) ?_ | refine Wl.assignE (by conv => { lhs; whnf }) ?_ | refine Wl.nil ?_ | refine Qseq.normal ?_ | refine Wc.region ?_ | refine Qblk.normal ?_ | refine Wl.add rfl rfl (by omega) (by omega) ?_))
      refine Qloop.normal 2 ⟨rfl, rfl, ?_, ?_, rfl, rfl, rfl, trivial⟩ ⟨by omega, n1.trans n2⟩ (by omega)
      · show vi _ = vi _
        simp only [sz1]
        congr 1; omega
      · show Value.bool true = Value.bool (decide _)
        rw [decide_eq_true (by simp only [sz1]; omega)]
    · have hz : s.count 34 = 0 := by omega
      refine Qloop.normal 2 ⟨rfl, rfl, ?_, ?_, rfl, rfl, rfl, trivial⟩ ⟨by omega, n1⟩ (by omega)
      · show vi _ = vi _
        simp only [sz1]
        congr 1; omega
      · show Value.bool (decide _) = Value.bool (decide _)
        congr 1
        rw [decide_eq_decide]
        simp only [sz1]; omega
  (repeat' (first | refine Wl.moveE (by conv => { lhs; whnf }) ?_ | refine Wl.nil ?_ | refine Wl.notB rfl ?_ | refine Qseq.normal ?_ | refine Wc.seq ?_ | refine Wc.region ?_ | refine Wc.exit ?_ | refine Qseq.exit ?_ | refine Qblk.hit ?_ | refine Qloop.exit ?_ | refine Wc.condF rfl ?_ | (refine Wl.lss rfl rfl (fun _ => ?_) (fun _ => ?_) <;> (first | (exfalso; omega) | skip))))
  rotate_left
  refine Wc.loop (σ := Nat) (fun k => [(0, .pointer (some ⟨b, 0, none⟩)), (1, vs s), (5, vi ((s.length + (s.take k).count 92 + (s.take k).count 34 : Nat) : Int)), (6, .bool (decide (0 < (s.take k).count 92 + (s.take k).count 34))), (10, vi k)]) (fun k w' => k ≤ s.length ∧ New w w') (fun k => s.length - k) 0 ⟨rfl, rfl, rfl, rfl, rfl, trivial⟩ ⟨by omega, Chg.refl _ _⟩ ?_
  rintro k G w' ⟨hk, n1⟩
  simp only [upds]
  have hk1 := List.count_le_length (a := (92 : UInt8)) (l := s.take k)
  have hk2 := List.count_le_length (a := (34 : UInt8)) (l := s.take k)
  rw [List.length_take] at hk1 hk2
  (repeat' (first | refine Wl.moveE (by conv => { lhs; whnf }) ?_ | refine Wl.nil ?_ | refine Wl.notB rfl ?_ | refine Wl.lenStr rfl ?_ | refine Qseq.normal ?_ | refine Wc.seq ?_ | refine Wc.region ?_ | refine Wc.block ?_ | refine Wc.skip ?_ | refine Wc.exit ?_ | refine Qseq.exit ?_ | refine Qblk.hit ?_ | refine Qloop.exit ?_ | refine Wc.condT rfl ?_ | refine Wc.condF rfl ?_ | refine Wl.lss rfl rfl (fun _ => ?_) (fun _ => ?_)))
  · obtain ⟨c, hc⟩ := get_lt' s (k := k) (by omega)
    have hcl := c.toNat_lt
    have e92 := count_snoc hc 92
    have e34 := count_snoc hc 34
    refine Wl.idxStr rfl rfl (by omega) (by rw [Int.toNat_natCast]; exact hc) ?_
    (repeat' (first | refine Wl.moveE (by conv => { lhs; whnf }) ?_ | refine Wl.assignE (by conv => { lhs; whnf }) ?_ | refine Wl.nil ?_ | refine Qseq.normal ?_ | refine Wc.seq ?_ | refine Wc.region ?_ | refine Wl.nilP rfl ?_ | refine Wl.fieldAddr rfl rfl ?_))
    refine Wl.idxArrP rfl rfl (by omega) (by omega) ?_
    obtain ⟨rv, hrv, hcase⟩ := rep_at (hrep.keep n1.keep) c
    refine Wl.load1 rfl (by rw [Int.toNat_natCast]; exact hrv) ?_
    rcases hcase with ⟨hq, ⟨ra, rcp, rfl⟩, hrd⟩ | ⟨hq, rfl⟩
    · refine Wl.sneNil rfl ?_
      (repeat' (first | refine Wl.moveE (by conv => { lhs; whnf }) ?_ | refine Wl.nil ?_ | refine Qseq.normal ?_ | refine Wc.seq ?_ | refine Wc.region ?_ | refine Wc.condT rfl ?_ | refine Wl.nilP rfl ?_ | refine Wl.fieldAddr rfl rfl ?_))
      refine Wl.idxArrP rfl rfl (by omega) (by omega) ?_
      refine Wl.load1 rfl (by rw [Int.toNat_natCast]; exact hrv) ?_
      (repeat' (first | refine Wl.moveE (by conv => { lhs; whnf }) ?_ | refine Wl.assignE (by conv => { lhs; whnf }) ?_ | refine Wl.nil ?_ | refine Wl.lenS rfl ?_ | refine Qseq.normal ?_ | refine Wc.region ?_ | refine Qblk.normal ?_ | refine Wl.add rfl rfl (by omega) (by omega) ?_ | refine Wl.sub rfl rfl (by omega) (by omega) ?_))
      have hone : (if c = 92 then 1 else 0) + (if c = 34 then 1 else 0) = 1 := by
        rcases hq with rfl | rfl <;> rfl
      refine Qloop.normal (k + 1) ⟨rfl, rfl, ?_, ?_, rfl, trivial⟩ ⟨by omega, n1⟩ (by omega)
      · show vi _ = vi _
        congr 1; omega
      · show Value.bool true = Value.bool (decide _)
        rw [decide_eq_true (by omega)]
    · refine Wl.sneNil rfl ?_
      (repeat' (first | refine Wl.moveE (by conv => { lhs; whnf }) ?_ | refine Wl.assignE (by conv => { lhs; whnf }) ?_ | refine Wl.nil ?_ | refine Qseq.normal ?_ | refine Wc.region ?_ | refine Wc.skip ?_ | refine Qblk.normal ?_ | refine Wc.condF rfl ?_ | refine Wl.add rfl rfl (by omega) (by omega) ?_))
      have hone : (if c = 92 then 1 else 0) + (if c = 34 then 1 else 0) = 0 := by
        rw [if_neg fun e => hq (.inr e), if_neg fun e => hq (.inl e)]
      refine Qloop.normal (k + 1) ⟨rfl, rfl, ?_, ?_, rfl, trivial⟩ ⟨by omega, n1⟩ (by omega)
      · show vi _ = vi _
        congr 1; omega
      · show Value.bool (decide _) = Value.bool (decide _)
        congr 1
        rw [decide_eq_decide]; omega
  have hk' : k = s.length := by omega
  subst hk'
  rw [List.take_length]
  refine Wc.frame [(0, .pointer (some ⟨b, 0, none⟩)), (1, vs s), (5, vi ((s.flatMap esc).length : Nat)), (82, .bool (decide (s.count 92 + s.count 34 = 0)))] ⟨rfl, rfl, (show vi _ = vi _ by congr 1; omega), (show Value.bool _ = Value.bool _ by congr 1; exact not_pos _), trivial⟩ fun G => ?_
  rotate_left
  refine Wc.frame [(0, .pointer (some ⟨b, 0, none⟩)), (1, vs s), (5, vi ((s.flatMap esc).length : Nat)), (82, .bool (decide (s.count 92 + s.count 34 = 0)))] ⟨rfl, rfl, (show vi _ = vi _ by congr 1; rw [hsl]; rfl), (show Value.bool _ = Value.bool _ by congr 1; rw [← not_pos, show sz1 s 2 - s.length = s.count 92 + s.count 34 by show s.length + s.count 92 + s.count 34 - s.length = _; omega]), trivial⟩ fun G => ?_
  all_goals
    simp only [upds]
    by_cases h0 : s.count 92 + s.count 34 = 0
    · refine Wc.condT (show Value.bool (decide _) = _ by rw [decide_eq_true h0]) ?_
      (repeat' (first | refine Wl.moveE (by conv => { lhs; whnf }) ?_ | refine Wl.assignE (by conv => { lhs; whnf }) ?_ | refine Wl.nil ?_ | refine Qseq.normal ?_ | refine Wc.seq ?_ | refine Wc.region ?_ | refine Wc.ret ?_ | refine Qseq.ret ?_))
      exact Qfn.ret1 rfl rfl ⟨_, rfl, (show vs s = vs (s.flatMap esc) by rw [esc_none (by omega) (by omega)]), n1⟩
    refine Wc.condF (show Value.bool (decide _) = _ by rw [decide_eq_false h0]) ?_
    have hN : (s.flatMap esc).length ≤ 300000000 := by omega
    (repeat' (first | refine Wl.moveE (by conv => { lhs; whnf }) ?_ | refine Qseq.normal ?_ | refine Wc.seq ?_ | refine Wc.region ?_ | refine Wc.skip ?_))
    refine Wl.makeA rfl rfl (by omega) (by simp only [maxLen]; omega) fun w2 cs oc n2 s2 => ?_
    obtain ⟨hcl, hoc⟩ := oc
    have bg : Bk w2 w'.heap.size 5 cs := by
      rcases hoc with ⟨e, _⟩ | ⟨g, cap, cur, e, rfl, hg, g1, g2, g3, g4⟩
      · cases e
      · cases e
        rw [List.take_of_length_le (by rw [Array.length_toList]; omega)] at g4
        subst g4
        exact hg
    have hgb : w'.heap.size ≠ b := by have := (h1.chg n1 id).lt; omega
    have hgw : w.heap.size ≤ w'.heap.size := n1.size
    obtain ⟨g, hg⟩ : ∃ g, g = w'.heap.size := ⟨_, rfl⟩
    rw [← hg] at bg hgb ⊢
    obtain ⟨N, hNe⟩ : ∃ N, N = (s.flatMap esc).length := ⟨_, rfl⟩
    rw [← hNe] at hN hcl ⊢
    rw [Nat.mul_one] at hcl
    have n02 := n1.trans n2
    clear n2 s2 hoc
    (repeat' (first | refine Wl.assignE (by conv => { lhs; whnf }) ?_ | refine Wl.nil ?_ | refine Qseq.normal ?_ | refine Wc.seq ?_ | refine Wc.region ?_ | refine Wc.block ?_))
    refine Wc.loop (σ := Nat) (fun i => [(0, .pointer (some ⟨b, 0, none⟩)), (1, vs s), (12, .slice (some ⟨g, 0, none⟩) N N), (13, vi (((s.take i).flatMap esc).length : Nat)), (14, vi i)])
      (fun i w' => i ≤ s.length ∧ Bk w' g 5 (((s.take i).flatMap esc).map by8 ++ cs.drop ((s.take i).flatMap esc).length) ∧ New w w' ) (fun i => s.length - i) 0 ⟨rfl, rfl, rfl, rfl, rfl, trivial⟩ ⟨Nat.zero_le _, by simpa using bg, n02⟩ ?_
    rintro i G w3 ⟨hi, b3, n3⟩
    simp only [upds]
    (repeat' (first | refine Wl.moveE (by conv => { lhs; whnf }) ?_ | refine Wl.nil ?_ | refine Wl.lenStr rfl ?_ | refine Qseq.normal ?_ | refine Wc.seq ?_ | refine Wc.region ?_ | refine Wc.block ?_ | refine Wc.skip ?_ | refine Wc.exit ?_ | refine Qseq.exit ?_ | refine Qblk.hit ?_ | refine Qloop.exit ?_ | refine Wc.condT rfl ?_ | refine Wc.condF rfl ?_ | refine Wl.lss rfl rfl (fun _ => ?_) (fun _ => ?_)))
    · obtain ⟨c, hc⟩ := get_lt' s (k := i) (by omega)
      have hcl' := c.toNat_lt
      have hnext : (s.take (i + 1)).flatMap esc = (s.take i).flatMap esc ++ esc c := take_succ_flat esc hc
      have hfit : ((s.take i).flatMap esc).length + (esc c).length ≤ N := by
        have h5 := congrArg List.length hnext
        rw [List.length_append] at h5
        rw [hNe, ← h5]
        exact flat_take_le esc s (i + 1)
      generalize (s.take i).flatMap esc = pre at *
      refine Wl.idxStr rfl rfl (by omega) (by rw [Int.toNat_natCast]; exact hc) ?_
      (repeat' (first | refine Wl.moveE (by conv => { lhs; whnf }) ?_ | refine Wl.assignE (by conv => { lhs; whnf }) ?_ | refine Wl.nil ?_ | refine Qseq.normal ?_ | refine Wc.seq ?_ | refine Wc.region ?_ | refine Wl.nilP rfl ?_ | refine Wl.fieldAddr rfl rfl ?_))
      refine Wl.idxArrP rfl rfl (by omega) (by omega) ?_
      obtain ⟨rv, hrv, hcase⟩ := rep_at (hrep.keep n3.keep) c
      refine Wl.load1 rfl (by rw [Int.toNat_natCast]; exact hrv) ?_
      rcases hcase with ⟨hq, ⟨ra, rcp, rfl⟩, hrd⟩ | ⟨hq, rfl⟩
      · refine Wl.sneNil rfl ?_
        (repeat' (first | refine Wl.nil ?_ | refine Qseq.normal ?_ | refine Wc.condT rfl ?_))
        have hxl : (esc c).length = 2 := by rcases hq with rfl | rfl <;> rfl
        have hbl : (pre.map by8 ++ cs.drop pre.length).length = N := by rw [List.length_append, List.length_map, List.length_drop]; omega
        have hbw : b < w3.heap.size := (h1.chg n3 id).lt
        refine Wc.regionT rfl (by kernel_rfl) (fun w' => Chg (fun x => x = g) w3 w') (Chg.drew _ _) ?_
        intro w4 n4
        (repeat' (refine Wt.quiet rfl (Wq.moveE (by conv => { lhs; whnf }) (Wq.nil ?_))))
        refine Wt.quiet rfl (Wq.sliceRow rfl rfl (by omega) (Wq.nil ?_))
        (repeat' (first | refine Wt.quiet rfl (Wq.moveE (by conv => { lhs; whnf }) (Wq.nil ?_)) | refine Wt.quiet rfl (Wq.nilP rfl (Wq.nil ?_)) | refine Wt.quiet rfl (Wq.fieldAddr rfl rfl (Wq.nil ?_))))
        refine Wt.quiet rfl (Wq.idxArrP rfl rfl (by omega) (by omega) (Wq.nil ?_))
        refine Wt.quiet rfl (Wq.load1 rfl (fun w' hw => (cell_keep (hw.block b hbw fun e => hgb e.symm)).trans (by rw [Int.toNat_natCast]; exact hrv)) (Wq.nil ?_))
        refine Wt.chain rfl (Wl.copyRow (b3.chg n4 id) (hrd.keep (stable_one _) n4.keep) (fun e => by rw [e] at hxl; cases hxl) (by omega) (by rw [hbl]; omega) rfl rfl fun w5 b5 c5 s5 => Wl.nil ⟨rfl, Chg.trans n4.any c5 fun _ _ e => e, ?_⟩)
        rw [setRange_app] at b5
        (repeat' (first | refine Wt.nil ?_ | refine Wt.quiet rfl (Wq.assignE (by conv => { lhs; whnf }) (Wq.nil ?_)) | refine Wt.quiet rfl (Wq.add rfl rfl (by omega) (by omega) (Wq.nil ?_))))
        (repeat' (first | refine Wl.moveE (by conv => { lhs; whnf }) ?_ | refine Wl.assignE (by conv => { lhs; whnf }) ?_ | refine Wl.nil ?_ | refine Qseq.normal ?_ | refine Wc.region ?_ | refine Qblk.normal ?_ | refine Wl.add rfl rfl (by omega) (by omega) ?_))
        refine Qloop.normal (i + 1) ⟨rfl, rfl, rfl, ?_, rfl, trivial⟩ ⟨by omega, ?_, Chg.trans (n3.trans n4) c5 fun k hk e => by omega⟩ (by omega)
        · show vi _ = vi _
          rw [hnext, List.length_append]
          congr 1
        · rw [hnext, List.length_append]; exact b5
      · have hxe : esc c = [c] := if_neg hq
        rw [hxe] at hfit hnext
        rw [List.length_singleton] at hfit
        refine Wl.sneNil rfl ?_
        (repeat' (first | refine Wl.moveE (by conv => { lhs; whnf }) ?_ | refine Wl.nil ?_ | refine Qseq.normal ?_ | refine Wc.seq ?_ | refine Wc.region ?_ | refine Wc.condF rfl ?_))
        have hbl : (pre.map by8 ++ cs.drop pre.length).length = N := by rw [List.length_append, List.length_map, List.length_drop]; omega
        refine Wl.idxRow rfl rfl (by omega) ?_
        refine Wl.store1 b3 rfl (by rw [hbl]; omega) rfl rfl fun w5 b5 c5 => ?_
        replace b5 : Bk w5 g 5 ((pre.map by8 ++ cs.drop pre.length).set pre.length (by8 c)) := b5
        rw [set_app (by omega)] at b5
        (repeat' (first | refine Wl.moveE (by conv => { lhs; whnf }) ?_ | refine Wl.assignE (by conv => { lhs; whnf }) ?_ | refine Wl.nil ?_ | refine Qseq.normal ?_ | refine Wc.region ?_ | refine Qblk.normal ?_ | refine Wl.add rfl rfl (by omega) (by omega) ?_))
        refine Qloop.normal (i + 1) ⟨rfl, rfl, rfl, ?_, rfl, trivial⟩ ⟨by omega, ?_, Chg.trans n3 c5 fun k hk e => by omega⟩ (by omega)
        · show vi _ = vi _
          rw [hnext, List.length_append]
          congr 1
        · rw [hnext, List.length_append]; exact b5
    · have hi2 : i = s.length := by omega
      subst hi2
      rw [List.take_length, ← hNe, List.drop_eq_nil_of_le (by omega), List.append_nil] at b3
      have hrd : RdS (one by8) 1 (fun _ => True) w3 (.slice (some ⟨g, 0, none⟩) N N) (s.flatMap esc) := by
        rw [hNe]
        refine .inr (.inr ⟨g, 0, _, _, _, _, rfl, trivial, b3, Nat.le_refl _, by simp only [maxLen]; omega, by simp, fun j x hx => ?_⟩)
        show (((s.flatMap esc).map by8).drop (0 + j * 1)).take 1 = [by8 x]
        rw [Nat.mul_one, Nat.zero_add]
        obtain ⟨g1, g2⟩ := List.getElem?_eq_some_iff.1 hx
        rw [List.drop_eq_getElem_cons (by simpa using g1), List.getElem_map, g2]; rfl
      refine Wl.bytesStr hrd rfl ?_
      (repeat' (first | refine Wl.assignE (by conv => { lhs; whnf }) ?_ | refine Wl.nil ?_ | refine Qseq.normal ?_ | refine Wc.ret ?_))
      exact Qfn.ret1 rfl rfl ⟨_, rfl, rfl, n3⟩
end Go.Proofs.YthppadlcejpgbaaGreatDoor

namespace Go.Proofs.YthppadlcejpgbaaGreatDoor
open Go Wk
open Go.RowKit (Below)
attribute [local irreducible] Go.Calls

/-- Texts in quotes, read from here on. -/
def tq (s acc : List UInt8) : Option (List UInt8) := match s with
  | 34 :: r => inT r acc
  | _ => none
theorem tq_no {s acc : List UInt8} (h : ∀ t, s ≠ [34] ++ t) : tq s acc = none := by
  unfold tq
  split
  · exact absurd rfl (h _)
  · rfl
theorem inT_nil (acc : List UInt8) : inT [] acc = none := by rw [inT]
theorem inT_end (acc : List UInt8) : inT [34] acc = some (acc ++ [0]) := by rw [inT]
theorem inT_go (r acc : List UInt8) : inT (34 :: 44 :: 32 :: r) acc = tq r (acc ++ [0]) := by
  unfold tq
  split
  · rw [inT]
  · rename_i h
    rw [inT.eq_def]
    split <;> simp_all
theorem inT_no {r acc : List UInt8} (hne : r ≠ []) (h : ∀ t, r ≠ [44, 32] ++ t) : inT (34 :: r) acc = none := by
  rw [inT.eq_def]
  split <;> simp_all
theorem inT_esc0 (acc : List UInt8) : inT [92] acc = none := by rw [inT]
theorem strDrop (l : List UInt8) : l.drop 1 = l.tail := by cases l <;> rfl
set_option maxHeartbeats 1000000 in
theorem texts_spec' {w : World} {s : List UInt8} (hl : s.length ≤ 100000000) :
    Calls Tryz.prog 36 #[vs s] w (Ret fun r w' => r = optV8 (tq s []) ∧ New w w') := by
  refine calls_of_Wc Tryz.func36 rfl Tryz.ntmps36 rfl ?_
  (repeat' (first | refine Wl.assignE (by conv => { lhs; whnf }) ?_ | refine Wl.nil ?_ | refine Qseq.normal ?_ | refine Wc.seq ?_ | refine Wc.region ?_ | refine Wc.block ?_))
  refine Wc.loop (σ := List UInt8 × Value × List UInt8) (fun x => [(0, vs x.1), (4, x.2.1)]) (fun x w' => x.1.length + x.2.2.length ≤ s.length ∧ tq s [] = tq x.1 x.2.2 ∧ OwnS (one by8) 5 1 (fun b => w.heap.size ≤ b) (fun _ => False) w' x.2.1 x.2.2 ∧ New w w') (fun x => x.1.length) (s, .slice none 0 0, []) ⟨rfl, rfl, trivial⟩ ⟨by simp, rfl, OwnS.nil, Chg.refl _ _⟩ ?_
  rintro ⟨u, bv, acc⟩ G w1 ⟨hlen, hq, ho, n1⟩
  dsimp only at hlen hq ho
  simp only [upds]
  (repeat' (first | refine Wl.moveE (by conv => { lhs; whnf }) ?_ | refine Wc.seq ?_ | refine Wc.region ?_ | refine Wc.block ?_))
  refine Wl.call (CutPrefix_spec u [34]) rfl ?_
  rintro _ _ ⟨h1, rfl⟩
  rcases h1 with ⟨r, rfl, rfl⟩ | ⟨hno, rfl⟩
  rotate_left
  · (repeat' (first | refine Wl.moveE (by conv => { lhs; whnf }) ?_ | refine Wl.assignE (by conv => { lhs; whnf }) ?_ | refine Wl.nil ?_ | refine Wl.extract rfl rfl ?_ | refine Wl.notB rfl ?_ | refine Qseq.normal ?_ | refine Wc.seq ?_ | refine Wc.region ?_ | refine Wc.ret ?_ | refine Qseq.ret ?_ | refine Qblk.ret ?_ | refine Qloop.ret ?_ | refine Wc.condT rfl ?_))
    rw [hq, tq_no hno]
    exact Qfn.ret2 rfl rfl rfl ⟨_, rfl, rfl, n1⟩
  · replace hq : tq s [] = inT r acc := hq
    simp only [List.length_append, List.length_singleton] at hlen
    (repeat' (first | refine Wl.moveE (by conv => { lhs; whnf }) ?_ | refine Wl.assignE (by conv => { lhs; whnf }) ?_ | refine Wl.nil ?_ | refine Wl.extract rfl rfl ?_ | refine Wl.notB rfl ?_ | refine Qseq.normal ?_ | refine Wc.seq ?_ | refine Wc.region ?_ | refine Wc.block ?_ | refine Wc.skip ?_ | refine Wc.condF rfl ?_))
    refine Wc.loop (σ := List UInt8 × Value × List UInt8) (fun x => [(0, vs x.1), (4, x.2.1)]) (fun x w' => (x.1.length ≤ r.length ∧ x.1.length + x.2.2.length ≤ r.length + acc.length) ∧ inT r acc = inT x.1 x.2.2 ∧ OwnS (one by8) 5 1 (fun b => w.heap.size ≤ b) (fun _ => False) w' x.2.1 x.2.2 ∧ New w w') (fun x => x.1.length) (r, bv, acc) ⟨rfl, rfl, trivial⟩ ⟨⟨Nat.le_refl _, Nat.le_refl _⟩, rfl, ho, n1⟩ ?_
    rintro ⟨u, bv, ac⟩ G w2 ⟨hlen2, hq2, ho2, n2⟩
    dsimp only at hlen2 hq2 ho2
    clear ho n1
    simp only [upds]
    cases u with
    | nil =>
      rw [inT_nil] at hq2
      (repeat' (first | refine Wl.moveE (by conv => { lhs; whnf }) ?_ | refine Wl.nil ?_ | refine Wl.guardN rfl rfl ?_ | refine Wl.pickFE rfl (by conv => { lhs; whnf }) ?_ | refine Qseq.normal ?_ | refine Wc.seq ?_ | refine Wc.region ?_ | refine Wc.exit ?_ | refine Qseq.exit ?_ | refine Qblk.hit ?_ | refine Qloop.exit ?_ | refine Wc.condF rfl ?_ | (refine Wl.sneq rfl rfl (fun _ => ?_) (fun _ => ?_) <;> (first | (exfalso; contradiction) | skip))))
      refine Wl.call (CutPrefix_spec [] [34]) rfl ?_
      rintro _ _ ⟨h1, rfl⟩
      rcases h1 with ⟨t, ht, _⟩ | ⟨_, rfl⟩
      · cases ht
      (repeat' (first | refine Wl.moveE (by conv => { lhs; whnf }) ?_ | refine Wl.assignE (by conv => { lhs; whnf }) ?_ | refine Wl.nil ?_ | refine Wl.extract rfl rfl ?_ | refine Wl.notB rfl ?_ | refine Qseq.normal ?_ | refine Wc.seq ?_ | refine Wc.region ?_ | refine Wc.ret ?_ | refine Qseq.ret ?_ | refine Qblk.ret ?_ | refine Qloop.ret ?_ | refine Wc.condT rfl ?_))
      rw [hq, hq2]
      exact Qfn.ret2 rfl rfl rfl ⟨_, rfl, rfl, n2⟩
    | cons c r2 =>
      simp only [List.length_cons] at hlen2
      by_cases h34 : c = 34
      · subst h34
        (repeat' (first | refine Wl.moveE (by conv => { lhs; whnf }) ?_ | refine Wl.guardY rfl rfl ?_ | refine Wc.seq ?_ | refine Wc.region ?_ | (refine Wl.sneq rfl rfl (fun _ => ?_) (fun _ => ?_) <;> (first | (exfalso; contradiction) | skip))))
        refine Wl.idxStr (b := 34) rfl rfl (by omega) rfl ?_
        (repeat' (first | refine Wl.moveE (by conv => { lhs; whnf }) ?_ | refine Wl.nil ?_ | refine Wl.guardY rfl rfl ?_ | refine Wl.pickTE rfl (by conv => { lhs; whnf }) ?_ | refine Qseq.normal ?_ | refine Wc.seq ?_ | refine Wc.region ?_ | refine Wc.exit ?_ | refine Qseq.exit ?_ | refine Qblk.hit ?_ | refine Qloop.exit ?_ | refine Wc.condF rfl ?_ | (refine Wl.neq rfl rfl (fun _ => ?_) (fun _ => ?_) <;> (first | (exfalso; contradiction) | skip))))
        refine Wl.call (CutPrefix_spec (34 :: r2) [34]) rfl ?_
        rintro _ _ ⟨h1, rfl⟩
        rcases h1 with ⟨t, ht, rfl⟩ | ⟨hno, _⟩
        rotate_left
        · exact absurd rfl (hno r2)
        obtain rfl : r2 = t := by cases ht; rfl
        have hap : ac.length ≤ 200000000 := by omega
        (repeat' (first | refine Wl.moveE (by conv => { lhs; whnf }) ?_ | refine Wl.assignE (by conv => { lhs; whnf }) ?_ | refine Wl.nil ?_ | refine Wl.extract rfl rfl ?_ | refine Wl.notB rfl ?_ | refine Qseq.normal ?_ | refine Wc.seq ?_ | refine Wc.region ?_ | refine Wc.skip ?_ | refine Wc.condF rfl ?_))
        refine Wl.append1 (y := 0) goodR8 ho2 rfl rfl rfl rfl rfl (by omega) (by omega) (by simp only [maxLen]; omega) (by omega) rfl rfl fun v3 w3 p ho3 hc3 _ => ?_
        have s2 := n2.size
        have n3 : New w w3 := Chg.trans n2 hc3 fun b hb e => by have := (ho2.lt e).1; omega
        (repeat' (first | refine Wl.moveE (by conv => { lhs; whnf }) ?_ | refine Wl.assignE (by conv => { lhs; whnf }) ?_ | refine Wl.nil ?_ | refine Qseq.normal ?_ | refine Wc.seq ?_ | refine Wc.region ?_ | refine Wc.skip ?_ | refine Wc.condT rfl ?_ | refine Wc.condF rfl ?_ | refine Wl.seql rfl rfl (fun _ => ?_) (fun _ => ?_)))
        · have hr0 : r2 = [] := by assumption
          subst hr0
          rw [inT_end] at hq2
          refine Wl.bytesStr (ho3.rd (mono_one _)) rfl ?_
          (repeat' (first | refine Wl.assignE (by conv => { lhs; whnf }) ?_ | refine Wl.nil ?_ | refine Qseq.normal ?_ | refine Wc.ret ?_ | refine Qseq.ret ?_ | refine Qblk.ret ?_ | refine Qloop.ret ?_))
          rw [hq, hq2]
          exact Qfn.ret2 rfl rfl rfl ⟨_, rfl, rfl, n3⟩
        · have hr0 : r2 ≠ [] := by assumption
          refine Wl.call (CutPrefix_spec r2 [44, 32]) rfl ?_
          rintro _ _ ⟨h1, rfl⟩
          rcases h1 with ⟨t, rfl, rfl⟩ | ⟨hno, rfl⟩
          · (repeat' (first | refine Wl.moveE (by conv => { lhs; whnf }) ?_ | refine Wl.assignE (by conv => { lhs; whnf }) ?_ | refine Wl.nil ?_ | refine Wl.extract rfl rfl ?_ | refine Wl.notB rfl ?_ | refine Qseq.normal ?_ | refine Wc.seq ?_ | refine Wc.region ?_ | refine Wc.skip ?_ | refine Qblk.normal ?_ | refine Wc.condF rfl ?_))
            replace hq2 : inT r acc = inT (34 :: 44 :: 32 :: t) ac := hq2
            rw [inT_go] at hq2
            simp only [List.length_append, List.length_cons, List.length_nil] at hlen2
            exact Qloop.normal (t, v3, ac ++ [0]) ⟨rfl, rfl, trivial⟩ ⟨by simp only [List.length_append, List.length_singleton]; omega, hq.trans hq2, ho3.mono goodR8.mo (fun b _ hb => by rcases hb with hb | hb <;> omega) (fun _ _ h => h), n3⟩ (by simp only [List.length_append, List.length_singleton]; omega)
          · (repeat' (first | refine Wl.moveE (by conv => { lhs; whnf }) ?_ | refine Wl.assignE (by conv => { lhs; whnf }) ?_ | refine Wl.nil ?_ | refine Wl.extract rfl rfl ?_ | refine Wl.notB rfl ?_ | refine Qseq.normal ?_ | refine Wc.seq ?_ | refine Wc.region ?_ | refine Wc.ret ?_ | refine Qblk.ret ?_ | refine Qloop.ret ?_ | refine Wc.condT rfl ?_))
            rw [hq, hq2, inT_no hr0 hno]
            exact Qfn.ret2 rfl rfl rfl ⟨_, rfl, rfl, n3⟩
      have hc34 : c.toNat ≠ 34 := fun e => h34 (UInt8.toNat_inj.1 e)
      have hap : ac.length ≤ 200000000 := by omega
      by_cases h92 : c = 92
      · subst h92
        (repeat' (first | refine Wl.moveE (by conv => { lhs; whnf }) ?_ | refine Wl.guardY rfl rfl ?_ | refine Wc.seq ?_ | refine Wc.region ?_ | (refine Wl.sneq rfl rfl (fun _ => ?_) (fun _ => ?_) <;> (first | (exfalso; contradiction) | skip))))
        refine Wl.idxStr (b := 92) rfl rfl (by omega) rfl ?_
        (repeat' (first | refine Wl.moveE (by conv => { lhs; whnf }) ?_ | refine Wl.nil ?_ | refine Wl.guardY rfl rfl ?_ | refine Wl.pickTE rfl (by conv => { lhs; whnf }) ?_ | refine Qseq.normal ?_ | refine Wc.seq ?_ | refine Wc.region ?_ | refine Wc.block ?_ | refine Wc.skip ?_ | refine Wc.condT rfl ?_ | (refine Wl.neq rfl rfl (fun _ => ?_) (fun _ => ?_) <;> (first | (exfalso; omega) | skip))))
        refine Wl.idxStr (b := 92) rfl rfl (by omega) rfl ?_
        (repeat' (first | refine Wl.moveE (by conv => { lhs; whnf }) ?_ | refine Wl.nil ?_ | refine Qseq.normal ?_ | refine Wc.region ?_ | refine Wc.condT rfl ?_ | (refine Wl.eql rfl rfl (fun _ => ?_) (fun _ => ?_) <;> (first | (exfalso; contradiction) | skip))))
        refine Wl.strFrom rfl rfl (by omega) (by simp only [List.length_cons]; omega) ?_
        rw [show (92 :: r2).drop (1 : Int).toNat = r2 from rfl]
        cases r2 with
        | nil =>
          (repeat' (first | refine Wl.moveE (by conv => { lhs; whnf }) ?_ | refine Wl.assignE (by conv => { lhs; whnf }) ?_ | refine Wl.nil ?_ | refine Qseq.normal ?_ | refine Wc.seq ?_ | refine Wc.region ?_ | refine Wc.ret ?_ | refine Qseq.ret ?_ | refine Qblk.ret ?_ | refine Qloop.ret ?_ | refine Wc.condT rfl ?_ | (refine Wl.seql rfl rfl (fun _ => ?_) (fun _ => ?_) <;> (first | (exfalso; contradiction) | skip))))
          rw [inT_esc0] at hq2
          rw [hq, hq2]
          exact Qfn.ret2 rfl rfl rfl ⟨_, rfl, rfl, n2⟩
        | cons d r3 =>
          simp only [List.length_cons] at hlen2
          (repeat' (first | refine Wl.moveE (by conv => { lhs; whnf }) ?_ | refine Wl.assignE (by conv => { lhs; whnf }) ?_ | refine Wl.nil ?_ | refine Qseq.normal ?_ | refine Wc.seq ?_ | refine Wc.region ?_ | refine Wc.skip ?_ | refine Wc.condF rfl ?_ | (refine Wl.seql rfl rfl (fun _ => ?_) (fun _ => ?_) <;> (first | (exfalso; contradiction) | skip))))
          refine Wl.idxStr (b := d) rfl rfl (by omega) rfl ?_
          refine Wl.append1 (y := d) goodR8 ho2 rfl rfl rfl rfl rfl (by omega) (by omega) (by simp only [maxLen]; omega) (by omega) rfl rfl fun v3 w3 p ho3 hc3 _ => ?_
          have s2 := n2.size
          (repeat' (first | refine Wl.moveE (by conv => { lhs; whnf }) ?_ | refine Wl.assignE (by conv => { lhs; whnf }) ?_ | refine Wl.nil ?_ | refine Qseq.normal ?_ | refine Wc.region ?_))
          refine Wl.strFrom rfl rfl (by omega) (by simp only [List.length_cons]; omega) ?_
          (repeat' (first | refine Wl.assignE (by conv => { lhs; whnf }) ?_ | refine Wl.nil ?_ | refine Qblk.normal ?_))
          refine Qloop.normal (r3, v3, ac ++ [d]) ⟨rfl, rfl, trivial⟩ ⟨by simp only [List.length_append, List.length_singleton]; omega, by dsimp only; rw [hq2, inT_esc], ho3.mono goodR8.mo (fun b _ hb => by rcases hb with hb | hb <;> omega) (fun _ _ h => h), Chg.trans n2 hc3 fun b hb e => by have := (ho2.lt e).1; omega⟩ (by simp only [List.length_cons]; omega)
      · have hc92 : c.toNat ≠ 92 := fun e => h92 (UInt8.toNat_inj.1 e)
        (repeat' (first | refine Wl.moveE (by conv => { lhs; whnf }) ?_ | refine Wl.guardY rfl rfl ?_ | refine Wc.seq ?_ | refine Wc.region ?_ | (refine Wl.sneq rfl rfl (fun _ => ?_) (fun _ => ?_) <;> (first | (exfalso; contradiction) | skip))))
        refine Wl.idxStr (b := c) rfl rfl (by omega) rfl ?_
        (repeat' (first | refine Wl.moveE (by conv => { lhs; whnf }) ?_ | refine Wl.nil ?_ | refine Wl.guardY rfl rfl ?_ | refine Wl.pickTE rfl (by conv => { lhs; whnf }) ?_ | refine Qseq.normal ?_ | refine Wc.seq ?_ | refine Wc.region ?_ | refine Wc.block ?_ | refine Wc.skip ?_ | refine Wc.condT rfl ?_ | (refine Wl.neq rfl rfl (fun _ => ?_) (fun _ => ?_) <;> (first | (exfalso; omega) | skip))))
        refine Wl.idxStr (b := c) rfl rfl (by omega) rfl ?_
        (repeat' (first | refine Wl.moveE (by conv => { lhs; whnf }) ?_ | refine Wl.nil ?_ | refine Qseq.normal ?_ | refine Wc.seq ?_ | refine Wc.region ?_ | refine Wc.skip ?_ | refine Wc.condF rfl ?_ | (refine Wl.eql rfl rfl (fun _ => ?_) (fun _ => ?_) <;> (first | (exfalso; omega) | skip)) | (refine Wl.seql rfl rfl (fun _ => ?_) (fun _ => ?_) <;> (first | (exfalso; contradiction) | skip))))
        refine Wl.idxStr (b := c) rfl rfl (by omega) rfl ?_
        refine Wl.append1 (y := c) goodR8 ho2 rfl rfl rfl rfl rfl (by omega) (by omega) (by simp only [maxLen]; omega) (by omega) rfl rfl fun v3 w3 p ho3 hc3 _ => ?_
        have s2 := n2.size
        (repeat' (first | refine Wl.moveE (by conv => { lhs; whnf }) ?_ | refine Wl.assignE (by conv => { lhs; whnf }) ?_ | refine Wl.nil ?_ | refine Qseq.normal ?_ | refine Wc.region ?_))
        refine Wl.strFrom rfl rfl (by omega) (by simp only [List.length_cons]; omega) ?_
        (repeat' (first | refine Wl.assignE (by conv => { lhs; whnf }) ?_ | refine Wl.nil ?_ | refine Qblk.normal ?_))
        refine Qloop.normal (r2, v3, ac ++ [c]) ⟨rfl, rfl, trivial⟩ ⟨by simp only [List.length_append, List.length_singleton]; omega, by dsimp only; rw [hq2, inT_plain h34 h92], ho3.mono goodR8.mo (fun b _ hb => by rcases hb with hb | hb <;> omega) (fun _ _ h => h), Chg.trans n2 hc3 fun b hb e => by have := (ho2.lt e).1; omega⟩ (by simp only [List.length_cons]; omega)
theorem inT_len : ∀ (n : Nat) (s acc r : List UInt8), s.length ≤ n → inT s acc = some r → r.length ≤ acc.length + s.length
  | 0, s, acc, r, hn, h => by
    obtain rfl : s = [] := List.eq_nil_of_length_eq_zero (by omega)
    rw [inT_nil] at h; cases h
  | n + 1, s, acc, r, hn, h => by
    rw [inT.eq_def] at h
    split at h
    · cases h
    · cases h; simp
    · have := inT_len n _ _ _ (by simp only [List.length_cons] at hn ⊢; omega) h
      simp only [List.length_append, List.length_cons, List.length_nil] at this ⊢; omega
    · cases h
    · cases h
    · have := inT_len n _ _ _ (by simp only [List.length_cons] at hn ⊢; omega) h
      simp only [List.length_append, List.length_cons, List.length_nil] at this ⊢; omega
    · have := inT_len n _ _ _ (by simp only [List.length_cons] at hn ⊢; omega) h
      simp only [List.length_append, List.length_cons, List.length_nil] at this ⊢; omega
theorem listedM_len {b e : UInt8} {sz mx : Nat} {s v : List UInt8} (hsz : sz ≤ 4) (h : listedM b e sz mx s = some v) : v.length ≤ 4 * s.length + 4 := by
  unfold listedM at h
  split at h
  · split at h
    · split at h
      · have h1 := wordsM_len h
        rw [splitR_length] at h1
        rename_i c r _ _
        have h2 := List.count_le_length (a := (32 : UInt8)) (l := r.dropLast)
        have h3 : r.dropLast.length ≤ r.length := by simp
        have h4 : sz * (r.dropLast.count 32 + 1) ≤ 4 * (r.dropLast.count 32 + 1) := Nat.mul_le_mul_right _ hsz
        simp only [List.length_nil, List.length_cons] at h1 ⊢; omega
      · cases h
    · cases h
  · cases h
theorem cand_len {s v : List UInt8} (h : candM s = some v) : v.length ≤ 4 * s.length + 4 := by
  unfold candM at h
  split at h
  · rename_i t
    have h' : inT t [] = some v := h
    have := inT_len _ _ _ _ (Nat.le_refl _) h'
    simp only [List.length_nil, List.length_cons] at this ⊢; omega
  · exact listedM_len (by omega) h
  · exact listedM_len (by omega) h
  · split at h
    · cases h; simp
    · cases h
theorem cand34 {s : List UInt8} (h : s.head? = some 34) : candM s = tq s [] := by
  cases s with
  | nil => cases h
  | cons c s => cases h; rfl
theorem cand60 {s : List UInt8} (h : s.head? = some 60) : candM s = listedM 60 62 4 4294967295 s := by
  cases s with
  | nil => cases h
  | cons c s => cases h; rfl
theorem cand91 {s : List UInt8} (h : s.head? = some 91) : candM s = listedM 91 93 1 255 s := by
  cases s with
  | nil => cases h
  | cons c s => cases h; rfl
theorem candE {s : List UInt8} (h1 : s.head? ≠ some 34) (h2 : s.head? ≠ some 60) (h3 : s.head? ≠ some 91) : candM s = if s = [45] then some [] else none := by
  unfold candM
  split <;> simp_all
set_option maxHeartbeats 1000000 in
theorem cParse_spec {w : World} {s : List UInt8} (hE : ErrV w) (hl : s.length ≤ 20000000)
    (hS : ∀ v, candM s = some v → v.length ≤ 4 * s.length + 4 → ∀ w', New w w' → Calls Tryz.prog 12 #[vs v] w' (Ret fun r w'' => r = vs (showM v) ∧ New w' w'')) :
    Calls Tryz.prog 14 #[vs s] w (Ret fun r w' => r = .tuple #[vs (parseM s).1, vi (parseM s).2] ∧ New w w') := by
  have n0 : New w w := Chg.refl _ _
  refine calls_of_Wc Tryz.func14 rfl Tryz.ntmps14 rfl ?_
  by_cases h34 : s.head? = some 34
  · have hne : s ≠ [45] := fun e => by rw [e] at h34; cases h34
    (repeat' (first | refine Wl.moveE (by conv => { lhs; whnf }) ?_ | refine Wl.assignE (by conv => { lhs; whnf }) ?_ | refine Wl.nil ?_ | refine Qseq.normal ?_ | refine Wc.seq ?_ | refine Wc.region ?_ | refine Wc.block ?_ | (refine Wl.seql rfl rfl (fun _ => ?_) (fun _ => ?_) <;> (first | (exfalso; contradiction) | skip))))
    refine Wl.call (HasPrefix1_spec s 34) rfl ?_
    rintro _ _ ⟨rfl, rfl⟩
    rw [decide_eq_true h34]
    (repeat' (first | refine Wl.moveE (by conv => { lhs; whnf }) ?_ | refine Wl.assignE (by conv => { lhs; whnf }) ?_ | refine Wl.nil ?_ | refine Qseq.normal ?_ | refine Wc.region ?_ | refine Wc.condT rfl ?_))
    refine Wl.call (texts_spec' (s := s) (by omega)) rfl ?_
    rintro _ w1 ⟨rfl, n1⟩
    cases hc : tq s [] with
    | none =>
      (repeat' (first | refine Wl.moveE (by conv => { lhs; whnf }) ?_ | refine Wl.assignE (by conv => { lhs; whnf }) ?_ | refine Wl.nil ?_ | refine Wl.extract rfl rfl ?_ | refine Wl.guardN rfl rfl ?_ | refine Wl.pickTE rfl (by conv => { lhs; whnf }) ?_ | refine Wl.notB rfl ?_ | refine Qseq.normal ?_ | refine Wc.seq ?_ | refine Wc.region ?_ | refine Wc.ret ?_ | refine Qseq.ret ?_ | refine Qblk.normal ?_ | refine Wc.condT rfl ?_))
      rw [show parseM s = ([], 4) by unfold parseM; rw [(cand34 h34), hc]]
      exact Qfn.ret2 rfl rfl rfl ⟨_, rfl, rfl, n1⟩
    | some v =>
      have hcs : candM s = some v := (cand34 h34).trans hc
      (repeat' (first | refine Wl.moveE (by conv => { lhs; whnf }) ?_ | refine Wl.assignE (by conv => { lhs; whnf }) ?_ | refine Wl.nil ?_ | refine Wl.extract rfl rfl ?_ | refine Wl.guardY rfl rfl ?_ | refine Wl.notB rfl ?_ | refine Qseq.normal ?_ | refine Wc.seq ?_ | refine Wc.region ?_ | refine Qblk.normal ?_))
      refine Wl.call (hS v hcs (cand_len hcs) _ n1) rfl ?_
      rintro _ w2 ⟨rfl, n2⟩
      (repeat' (first | refine Wl.moveE (by conv => { lhs; whnf }) ?_ | refine Wl.assignE (by conv => { lhs; whnf }) ?_ | refine Wl.nil ?_ | refine Wl.guardY rfl rfl ?_ | refine Wl.pickFE rfl (by conv => { lhs; whnf }) ?_ | refine Qseq.normal ?_ | refine Wc.seq ?_ | refine Wc.region ?_ | refine Wc.skip ?_ | refine Wc.ret ?_ | refine Qseq.ret ?_ | refine Wc.condT rfl ?_ | refine Wc.condF rfl ?_ | refine Wl.sneq rfl rfl (fun _ => ?_) (fun _ => ?_)))
      · have hne : showM v ≠ s := by assumption
        rw [show parseM s = ([], 4) by unfold parseM; rw [hcs]; exact if_neg hne]
        exact Qfn.ret2 rfl rfl rfl ⟨_, rfl, rfl, n1.trans n2⟩
      · have heq : showM v = s := by assumption
        rw [show parseM s = (v, 0) by unfold parseM; rw [hcs]; exact if_pos heq]
        exact Qfn.ret2 rfl rfl rfl ⟨_, rfl, rfl, n1.trans n2⟩
  by_cases h60 : s.head? = some 60
  · have hne : s ≠ [45] := fun e => by rw [e] at h60; cases h60
    (repeat' (first | refine Wl.moveE (by conv => { lhs; whnf }) ?_ | refine Wl.assignE (by conv => { lhs; whnf }) ?_ | refine Wl.nil ?_ | refine Qseq.normal ?_ | refine Wc.seq ?_ | refine Wc.region ?_ | refine Wc.block ?_ | (refine Wl.seql rfl rfl (fun _ => ?_) (fun _ => ?_) <;> (first | (exfalso; contradiction) | skip))))
    refine Wl.call (HasPrefix1_spec s 34) rfl ?_
    rintro _ _ ⟨rfl, rfl⟩
    rw [decide_eq_false h34]
    (repeat' (first | refine Wl.moveE (by conv => { lhs; whnf }) ?_ | refine Wl.assignE (by conv => { lhs; whnf }) ?_ | refine Wl.nil ?_ | refine Qseq.normal ?_ | refine Wc.seq ?_ | refine Wc.region ?_ | refine Wc.condF rfl ?_))
    refine Wl.call (HasPrefix1_spec s 60) rfl ?_
    rintro _ _ ⟨rfl, rfl⟩
    rw [decide_eq_true h60]
    (repeat' (first | refine Wl.moveE (by conv => { lhs; whnf }) ?_ | refine Wl.assignE (by conv => { lhs; whnf }) ?_ | refine Wl.nil ?_ | refine Qseq.normal ?_ | refine Wc.region ?_ | refine Wc.condT rfl ?_))
    refine Wl.call (listed_spec (s := s) (b := 60) (e := 62) (sz := 4) hE (.inr ⟨rfl, rfl⟩) (by omega)) rfl ?_
    rintro _ w1 ⟨rfl, n1⟩
    cases hc : listedM 60 62 4 4294967295 s with
    | none =>
      (repeat' (first | refine Wl.moveE (by conv => { lhs; whnf }) ?_ | refine Wl.assignE (by conv => { lhs; whnf }) ?_ | refine Wl.nil ?_ | refine Wl.extract rfl rfl ?_ | refine Wl.guardN rfl rfl ?_ | refine Wl.pickTE rfl (by conv => { lhs; whnf }) ?_ | refine Wl.notB rfl ?_ | refine Qseq.normal ?_ | refine Wc.seq ?_ | refine Wc.region ?_ | refine Wc.ret ?_ | refine Qseq.ret ?_ | refine Qblk.normal ?_ | refine Wc.condT rfl ?_))
      rw [show parseM s = ([], 4) by unfold parseM; rw [(cand60 h60), hc]]
      exact Qfn.ret2 rfl rfl rfl ⟨_, rfl, rfl, n1⟩
    | some v =>
      have hcs : candM s = some v := (cand60 h60).trans hc
      (repeat' (first | refine Wl.moveE (by conv => { lhs; whnf }) ?_ | refine Wl.assignE (by conv => { lhs; whnf }) ?_ | refine Wl.nil ?_ | refine Wl.extract rfl rfl ?_ | refine Wl.guardY rfl rfl ?_ | refine Wl.notB rfl ?_ | refine Qseq.normal ?_ | refine Wc.seq ?_ | refine Wc.region ?_ | refine Qblk.normal ?_))
      refine Wl.call (hS v hcs (cand_len hcs) _ n1) rfl ?_
      rintro _ w2 ⟨rfl, n2⟩
      (repeat' (first | refine Wl.moveE (by conv => { lhs; whnf }) ?_ | refine Wl.assignE (by conv => { lhs; whnf }) ?_ | refine Wl.nil ?_ | refine Wl.guardY rfl rfl ?_ | refine Wl.pickFE rfl (by conv => { lhs; whnf }) ?_ | refine Qseq.normal ?_ | refine Wc.seq ?_ | refine Wc.region ?_ | refine Wc.skip ?_ | refine Wc.ret ?_ | refine Qseq.ret ?_ | refine Wc.condT rfl ?_ | refine Wc.condF rfl ?_ | refine Wl.sneq rfl rfl (fun _ => ?_) (fun _ => ?_)))
      · have hne : showM v ≠ s := by assumption
        rw [show parseM s = ([], 4) by unfold parseM; rw [hcs]; exact if_neg hne]
        exact Qfn.ret2 rfl rfl rfl ⟨_, rfl, rfl, n1.trans n2⟩
      · have heq : showM v = s := by assumption
        rw [show parseM s = (v, 0) by unfold parseM; rw [hcs]; exact if_pos heq]
        exact Qfn.ret2 rfl rfl rfl ⟨_, rfl, rfl, n1.trans n2⟩
  by_cases h91 : s.head? = some 91
  · have hne : s ≠ [45] := fun e => by rw [e] at h91; cases h91
    (repeat' (first | refine Wl.moveE (by conv => { lhs; whnf }) ?_ | refine Wl.assignE (by conv => { lhs; whnf }) ?_ | refine Wl.nil ?_ | refine Qseq.normal ?_ | refine Wc.seq ?_ | refine Wc.region ?_ | refine Wc.block ?_ | (refine Wl.seql rfl rfl (fun _ => ?_) (fun _ => ?_) <;> (first | (exfalso; contradiction) | skip))))
    refine Wl.call (HasPrefix1_spec s 34) rfl ?_
    rintro _ _ ⟨rfl, rfl⟩
    rw [decide_eq_false h34]
    (repeat' (first | refine Wl.moveE (by conv => { lhs; whnf }) ?_ | refine Wl.assignE (by conv => { lhs; whnf }) ?_ | refine Wl.nil ?_ | refine Qseq.normal ?_ | refine Wc.seq ?_ | refine Wc.region ?_ | refine Wc.condF rfl ?_))
    refine Wl.call (HasPrefix1_spec s 60) rfl ?_
    rintro _ _ ⟨rfl, rfl⟩
    rw [decide_eq_false h60]
    (repeat' (first | refine Wl.moveE (by conv => { lhs; whnf }) ?_ | refine Wl.assignE (by conv => { lhs; whnf }) ?_ | refine Wl.nil ?_ | refine Qseq.normal ?_ | refine Wc.seq ?_ | refine Wc.region ?_ | refine Wc.condF rfl ?_))
    refine Wl.call (HasPrefix1_spec s 91) rfl ?_
    rintro _ _ ⟨rfl, rfl⟩
    rw [decide_eq_true h91]
    (repeat' (first | refine Wl.moveE (by conv => { lhs; whnf }) ?_ | refine Wl.assignE (by conv => { lhs; whnf }) ?_ | refine Wl.nil ?_ | refine Qseq.normal ?_ | refine Wc.region ?_ | refine Wc.condT rfl ?_))
    refine Wl.call (listed_spec (s := s) (b := 91) (e := 93) (sz := 1) hE (.inl ⟨rfl, rfl⟩) (by omega)) rfl ?_
    rintro _ w1 ⟨rfl, n1⟩
    cases hc : listedM 91 93 1 255 s with
    | none =>
      (repeat' (first | refine Wl.moveE (by conv => { lhs; whnf }) ?_ | refine Wl.assignE (by conv => { lhs; whnf }) ?_ | refine Wl.nil ?_ | refine Wl.extract rfl rfl ?_ | refine Wl.guardN rfl rfl ?_ | refine Wl.pickTE rfl (by conv => { lhs; whnf }) ?_ | refine Wl.notB rfl ?_ | refine Qseq.normal ?_ | refine Wc.seq ?_ | refine Wc.region ?_ | refine Wc.ret ?_ | refine Qseq.ret ?_ | refine Qblk.normal ?_ | refine Wc.condT rfl ?_))
      rw [show parseM s = ([], 4) by unfold parseM; rw [(cand91 h91), hc]]
      exact Qfn.ret2 rfl rfl rfl ⟨_, rfl, rfl, n1⟩
    | some v =>
      have hcs : candM s = some v := (cand91 h91).trans hc
      (repeat' (first | refine Wl.moveE (by conv => { lhs; whnf }) ?_ | refine Wl.assignE (by conv => { lhs; whnf }) ?_ | refine Wl.nil ?_ | refine Wl.extract rfl rfl ?_ | refine Wl.guardY rfl rfl ?_ | refine Wl.notB rfl ?_ | refine Qseq.normal ?_ | refine Wc.seq ?_ | refine Wc.region ?_ | refine Qblk.normal ?_))
      refine Wl.call (hS v hcs (cand_len hcs) _ n1) rfl ?_
      rintro _ w2 ⟨rfl, n2⟩
      (repeat' (first | refine Wl.moveE (by conv => { lhs; whnf }) ?_ | refine Wl.assignE (by conv => { lhs; whnf }) ?_ | refine Wl.nil ?_ | refine Wl.guardY rfl rfl ?_ | refine Wl.pickFE rfl (by conv => { lhs; whnf }) ?_ | refine Qseq.normal ?_ | refine Wc.seq ?_ | refine Wc.region ?_ | refine Wc.skip ?_ | refine Wc.ret ?_ | refine Qseq.ret ?_ | refine Wc.condT rfl ?_ | refine Wc.condF rfl ?_ | refine Wl.sneq rfl rfl (fun _ => ?_) (fun _ => ?_)))
      · have hne : showM v ≠ s := by assumption
        rw [show parseM s = ([], 4) by unfold parseM; rw [hcs]; exact if_neg hne]
        exact Qfn.ret2 rfl rfl rfl ⟨_, rfl, rfl, n1.trans n2⟩
      · have heq : showM v = s := by assumption
        rw [show parseM s = (v, 0) by unfold parseM; rw [hcs]; exact if_pos heq]
        exact Qfn.ret2 rfl rfl rfl ⟨_, rfl, rfl, n1.trans n2⟩
  have hcE := candE h34 h60 h91
  have n1 := n0
  (repeat' (first | refine Wl.moveE (by conv => { lhs; whnf }) ?_ | refine Wl.assignE (by conv => { lhs; whnf }) ?_ | refine Wl.nil ?_ | refine Qseq.normal ?_ | refine Wc.seq ?_ | refine Wc.region ?_ | refine Wc.block ?_ | refine Wl.seql rfl rfl (fun _ => ?_) (fun _ => ?_)))
  all_goals
    refine Wl.call (HasPrefix1_spec s 34) rfl ?_
    rintro _ _ ⟨rfl, rfl⟩
    rw [decide_eq_false h34]
    (repeat' (first | refine Wl.moveE (by conv => { lhs; whnf }) ?_ | refine Wl.assignE (by conv => { lhs; whnf }) ?_ | refine Wl.nil ?_ | refine Qseq.normal ?_ | refine Wc.seq ?_ | refine Wc.region ?_ | refine Wc.condF rfl ?_))
    refine Wl.call (HasPrefix1_spec s 60) rfl ?_
    rintro _ _ ⟨rfl, rfl⟩
    rw [decide_eq_false h60]
    (repeat' (first | refine Wl.moveE (by conv => { lhs; whnf }) ?_ | refine Wl.assignE (by conv => { lhs; whnf }) ?_ | refine Wl.nil ?_ | refine Qseq.normal ?_ | refine Wc.seq ?_ | refine Wc.region ?_ | refine Wc.condF rfl ?_))
    refine Wl.call (HasPrefix1_spec s 91) rfl ?_
    rintro _ _ ⟨rfl, rfl⟩
    rw [decide_eq_false h91]
    (repeat' (first | refine Wl.moveE (by conv => { lhs; whnf }) ?_ | refine Wl.assignE (by conv => { lhs; whnf }) ?_ | refine Wl.nil ?_ | refine Wl.guardY rfl rfl ?_ | refine Wl.guardN rfl rfl ?_ | refine Wl.pickTE rfl (by conv => { lhs; whnf }) ?_ | refine Wl.notB rfl ?_ | refine Qseq.normal ?_ | refine Wc.seq ?_ | refine Wc.region ?_ | refine Wc.skip ?_ | refine Wc.ret ?_ | refine Qseq.ret ?_ | refine Qblk.normal ?_ | refine Wc.condT rfl ?_ | refine Wc.condF rfl ?_))
  · have he : s = [45] := by assumption
    rw [if_pos he] at hcE
    refine Wl.call (hS [] hcE (cand_len hcE) _ n1) rfl ?_
    rintro _ w2 ⟨rfl, n2⟩
    (repeat' (first | refine Wl.moveE (by conv => { lhs; whnf }) ?_ | refine Wl.assignE (by conv => { lhs; whnf }) ?_ | refine Wl.nil ?_ | refine Wl.guardY rfl rfl ?_ | refine Wl.pickFE rfl (by conv => { lhs; whnf }) ?_ | refine Qseq.normal ?_ | refine Wc.seq ?_ | refine Wc.region ?_ | refine Wc.skip ?_ | refine Wc.ret ?_ | refine Qseq.ret ?_ | refine Wc.condT rfl ?_ | refine Wc.condF rfl ?_ | refine Wl.sneq rfl rfl (fun _ => ?_) (fun _ => ?_)))
    · exact absurd he.symm (by assumption)
    · rw [show parseM s = ([], 0) by unfold parseM; rw [hcE]; exact if_pos he.symm]
      exact Qfn.ret2 rfl rfl rfl ⟨_, rfl, rfl, n1.trans n2⟩
  · rw [if_neg (by assumption)] at hcE
    rw [show parseM s = ([], 4) by unfold parseM; rw [hcE]]
    exact Qfn.ret2 rfl rfl rfl ⟨_, rfl, rfl, n1⟩
end Go.Proofs.YthppadlcejpgbaaGreatDoor

namespace Go.Proofs.YthppadlcejpgbaaGreatDoor
open Go Wk
open Go.RowKit (Below)
attribute [local irreducible] Go.Calls

abbrev tR : TypeId := 101
abbrev ifR (b : Nat) : Value := .iface 139 (.pointer (some ⟨b, 0, none⟩))
/-- A replacer of quotes and strokes, asked before or not. -/
def RepS (Pb : Nat → Prop) (w : World) (R : Nat) : Prop :=
  Pb R ∧ ((∃ ov, ov.oneCell' = true ∧ Bk w R tR [.int .u32 0, .int .i32 0, .int .u32 0, .nilIface, ov] ∧ RdS (one vs) 1 (fun k => Pb k ∧ k ≠ R) w ov oldL) ∨
    ∃ b, Bk w R tR [.int .u32 1, .int .i32 0, .int .u32 0, ifR b, nilS] ∧ RepB (fun k => Pb k ∧ k ≠ R) w b)
theorem RepS.keep {Pb : Nat → Prop} {w w' : World} {R : Nat} (h : RepS Pb w R) (hk : Keep Pb w w') : RepS Pb w' R := by
  obtain ⟨hR, ⟨ov, ho, hb, hr⟩ | ⟨b, hb, hr⟩⟩ := h
  · exact ⟨hR, .inl ⟨ov, ho, hb.keep hk hR, hr.keep (stable_one _) fun x hx => hk x hx.1⟩⟩
  · exact ⟨hR, .inr ⟨b, hb.keep hk hR, hr.keep fun x hx => hk x hx.1⟩⟩
theorem RepS.mono {Pb Pb' : Nat → Prop} {w : World} {R : Nat} (h : RepS Pb w R) (hP : ∀ k, k < w.heap.size → Pb k → Pb' k) : RepS Pb' w R := by
  obtain ⟨hR, ⟨ov, ho, hb, hr⟩ | ⟨b, hb, hr⟩⟩ := h
  · exact ⟨hP R hb.lt hR, .inl ⟨ov, ho, hb, hr.mono (mono_one _) fun x hx h => ⟨hP x hx h.1, h.2⟩⟩⟩
  · exact ⟨hP R hb.lt hR, .inr ⟨b, hb, hr.mono fun x hx h => ⟨hP x hx h.1, h.2⟩⟩⟩
theorem RepS.lt {Pb : Nat → Prop} {w : World} {R : Nat} (h : RepS Pb w R) : R < w.heap.size := by
  obtain ⟨hR, ⟨ov, ho, hb, hr⟩ | ⟨b, hb, hr⟩⟩ := h <;> exact hb.lt
theorem run_buildR {w : World} {a : Option Addr} {l c : Nat} : (Instr.build tR #[(2, .slice a l c)]).run Tryz.prog w = .ok (.agg #[.int .u32 0, .int .i32 0, .int .u32 0, .nilIface, .slice a l c]) w := by kernel_rfl
theorem NewReplacer_spec {Pr : Nat → Prop} {w : World} {v : Value} (h : RdS (one vs) 1 Pr w v oldL) :
    Calls Tryz.prog 30 #[v] w (Ret fun r w' => ∃ R, r = .pointer (some ⟨R, 0, none⟩) ∧ RepS (fun k => w.heap.size ≤ k) w' R ∧ New w w') := by
  obtain ⟨a, cap, e, _, _⟩ := h.form
  replace e : v = .slice a 4 cap := e
  subst e
  refine calls_of_Wc Tryz.func30 rfl Tryz.ntmps30 rfl ?_
  (repeat' (first | refine Wl.moveE (by conv => { lhs; whnf }) ?_ | refine Wl.assignE (by conv => { lhs; whnf }) ?_ | refine Wl.nil ?_ | refine Wl.lenS rfl ?_ | refine Qseq.normal ?_ | refine Wc.seq ?_ | refine Wc.region ?_))
  refine Wl.remW rfl rfl (by omega) ?_
  rw [show (((4 : Nat) : Int)).tmod 2 = 0 from rfl]
  (repeat' (first | refine Wl.moveE (by conv => { lhs; whnf }) ?_ | refine Wl.nil ?_ | refine Qseq.normal ?_ | refine Wc.seq ?_ | refine Wc.region ?_ | refine Wc.skip ?_ | refine Wc.condF rfl ?_ | (refine Wl.eql rfl rfl (fun _ => ?_) (fun _ => ?_) <;> (first | (exfalso; omega) | skip))))
  refine Wl.appendAll (v := nilS) (xs := []) (Pb := fun _ => False) (Pe := fun _ => False) goodStr OwnS.nil h (fun _ _ h => h) rfl rfl (by omega) (by decide) (by decide) fun v1 w1 ho hc _ _ => ?_
  obtain ⟨a1, c1, e, _, _⟩ := ho.form
  replace e : v1 = .slice a1 4 c1 := e
  subst e
  refine Wl.buildG rfl run_buildR ?_
  refine Wl.box rfl fun w2 b2 n2 s2 => ?_
  (repeat' (first | refine Wl.assignE (by conv => { lhs; whnf }) ?_ | refine Wl.nil ?_ | refine Qseq.normal ?_ | refine Wc.ret ?_))
  have n1 : New w w1 := hc.mono fun k hk e => by cases e
  have hs1 := n1.size
  refine Qfn.ret1 rfl rfl ⟨_, rfl, w1.heap.size, rfl, ⟨by omega, .inl ⟨_, rfl, b2, ?_⟩⟩, n1.trans n2⟩
  refine ((rd_at (ho.rd goodStr.mo)).mono (mono_one _) (fun k hk h => ?_)).keep (stable_one _) n2.keep
  rcases h.1 with (h1 | h1) | h1
  · exact h1.elim
  · exact ⟨h1, by have := h.2; omega⟩
  · exact h1.elim
theorem buildOnce_spec {Pr : Nat → Prop} {w : World} {R : Nat} {ov : Value} {c0 c1 c2 c3 : Value} (ho : ov.oneCell' = true) (hov : RdS (one vs) 1 Pr w ov oldL) (hb : Bk w R tR [c0, c1, c2, c3, ov]) :
    Calls Tryz.prog 53 #[.pointer (some ⟨R, 0, none⟩)] w (Ret fun r w' => r = .tuple #[] ∧ ∃ b, Bk w' R tR [c0, c1, c2, ifR b, nilS] ∧ RepB (fun k => w.heap.size ≤ k) w' b ∧ Chg (fun k => k = R) w w') := by
  have hRl := hb.lt
  refine calls_of_Wc Tryz.func53 rfl Tryz.ntmps53 rfl ?_
  (repeat' (first | refine Wl.moveE (by conv => { lhs; whnf }) ?_ | refine Wc.seq ?_ | refine Wc.region ?_))
  refine Wl.call (build_spec hov hb) rfl ?_
  rintro _ w1 ⟨b, rfl, hr, n1⟩
  have b1 := hb.chg n1 id
  (repeat' (first | refine Wl.nilP rfl ?_ | refine Wl.fieldAddr rfl rfl ?_))
  refine Wl.store1 b1 rfl (show 0 + 3 < 5 by omega) rfl rfl fun w2 b2 c2' => ?_
  have r2 := hr.keep (c2'.keep fun k _ hk e => by omega)
  (repeat' (first | refine Wl.moveE (by conv => { lhs; whnf }) ?_ | refine Wl.nil ?_ | refine Qseq.normal ?_ | refine Wc.region ?_ | refine Wl.nilP rfl ?_ | refine Wl.fieldAddr rfl rfl ?_))
  refine Wl.store1 b2 rfl (by rw [List.length_set]; exact (show 0 + 4 < 5 by omega)) rfl rfl fun w3 b3 c3' => ?_
  have r3 := r2.keep (c3'.keep fun k _ hk e => by omega)
  (repeat' (refine Wl.nil ?_))
  exact Qfn.end0 rfl ⟨_, rfl, rfl, b, b3, r3, Chg.trans (Chg.trans n1.any c2' (M := fun k => k = R) fun _ _ e => e) c3' fun _ _ e => e⟩
theorem callRep {b : Nat} {s : List UInt8} (w : World) : (callMethod (ifR b) "Replace" [vs s].toArray).run Tryz.prog w = .ok (.enter 168 [Value.pointer (some ⟨b, 0, none⟩), vs s].toArray) w := by kernel_rfl
set_option maxHeartbeats 1000000 in
theorem RReplace_spec {Pb : Nat → Prop} {w : World} {R : Nat} {s : List UInt8} (h : RepS Pb w R) (hl : s.length ≤ 100000000) :
    Calls Tryz.prog 31 #[.pointer (some ⟨R, 0, none⟩), vs s] w (Ret fun r w' => r = vs (s.flatMap esc) ∧ RepS (fun k => Pb k ∨ w.heap.size ≤ k) w' R ∧ Chg (fun k => k = R) w w') := by
  have hRl := h.lt
  obtain ⟨hR, hcase⟩ := h
  refine calls_of_Wc Tryz.func31 rfl Tryz.ntmps31 rfl ?_
  (repeat' (first | refine Wl.moveE (by conv => { lhs; whnf }) ?_ | refine Wl.assignE (by conv => { lhs; whnf }) ?_ | refine Wl.nil ?_ | refine Qseq.normal ?_ | refine Wc.seq ?_ | refine Wc.region ?_ | refine Wl.nilP rfl ?_ | refine Wl.fieldAddr rfl rfl ?_))
  refine Wl.makeFunc (first := [.tmp 8]) (cap := []) rfl rfl ?_
  have hdo : Calls Tryz.prog 52 [Value.pointer (some ⟨R, 0 + 0, none⟩), .func (.func 53) [Value.pointer (some ⟨R, 0, none⟩)].toArray [].toArray].toArray w (Ret fun _ w' => Chg (fun k => k = R) w w' ∧ ∃ b, Bk w' R tR [.int .u32 1, .int .i32 0, .int .u32 0, ifR b, nilS] ∧ RepB (fun k => (Pb k ∨ w.heap.size ≤ k) ∧ k ≠ R) w' b) := by
    rcases hcase with ⟨ov, ho, hb, hr⟩ | ⟨b, hb, hr⟩
    · have hb1 := hb.store 1 (.int .i32 1)
      have c1 : Chg (fun k => k = R) w (w.setCell ⟨R, 1, none⟩ (.int .i32 1)) := Chg.store R 1 _
      have hr1 := hr.keep (stable_one _) (c1.keep fun k _ hk e => hk.2 e)
      refine (Do_first R w (fun w' => ∃ b, Bk w' R tR [.int .u32 0, .int .i32 1, .int .u32 0, ifR b, nilS] ∧ RepB (fun k => w.heap.size ≤ k) w' b ∧ Chg (fun k => k = R) w w') (hb.cell (o := 0) rfl) (hb.cell (o := 1) rfl) (hb.frozen 1) ?_).mono ?_
      · refine (buildOnce_spec ho hr1 hb1).mono ?_
        rintro e w' ⟨_, rfl, rfl, b, b1, r1, c2⟩
        refine ⟨rfl, b1.cell (o := 0) rfl, b1.cell (o := 1) rfl, b1.frozen 0, b1.frozen 1, b, b1, r1.mono fun k _ hk => Nat.le_trans c1.size hk, Chg.trans c1 c2 fun _ _ e => e⟩
      · rintro e w' ⟨rfl, w1, ⟨b, b1, r1, c2⟩, rfl⟩
        have b1d : Bk w1.drew R tR [.int .u32 0, .int .i32 1, .int .u32 0, ifR b, nilS] := b1
        have b2 := b1d.store 0 (.int .u32 1)
        have b3 := b2.store 1 (.int .i32 0)
        have k1 : Chg (fun k => k = R) w1 w1.drew := Chg.drew _ _
        have k2 : Chg (fun k => k = R) w1.drew (w1.drew.setCell ⟨R, 0, none⟩ (.int .u32 1)) := Chg.store R 0 _
        have k3 : Chg (fun k => k = R) (w1.drew.setCell ⟨R, 0, none⟩ (.int .u32 1)) ((w1.drew.setCell ⟨R, 0, none⟩ (.int .u32 1)).setCell ⟨R, 1, none⟩ (.int .i32 0)) := Chg.store R 1 _
        have k13 := Chg.trans k1 (Chg.trans k2 k3 fun _ _ e => e) fun _ _ e => e
        refine ⟨_, rfl, Chg.trans c2 k13 fun _ _ e => e, b, b3, (r1.keep (k13.keep fun k _ hk e => by omega)).mono fun k _ hk => ⟨.inr hk, by omega⟩⟩
    · refine (Do_done R _ w (hb.cell (o := 0) rfl)).mono ?_
      rintro e w' ⟨rfl, rfl⟩
      exact ⟨_, rfl, Chg.refl _ _, b, hb, hr.mono fun k _ hk => ⟨.inl hk.1, hk.2⟩⟩
  refine Wl.call hdo rfl ?_
  rintro _ w1 ⟨c1, b, hb, hr⟩
  (repeat' (first | refine Wl.moveE (by conv => { lhs; whnf }) ?_ | refine Wl.nil ?_ | refine Qseq.normal ?_ | refine Wc.seq ?_ | refine Wc.region ?_ | refine Wl.nilP rfl ?_ | refine Wl.fieldAddr rfl rfl ?_))
  refine Wl.load1 rfl (hb.cell (o := 3) rfl) ?_
  (repeat' (refine Wl.moveE (by conv => { lhs; whnf }) ?_))
  refine Wl.invoke rfl rfl callRep (Replace_spec hr hl) ?_
  rintro _ w2 ⟨rfl, n2⟩
  (repeat' (first | refine Wl.assignE (by conv => { lhs; whnf }) ?_ | refine Wl.nil ?_ | refine Qseq.normal ?_ | refine Wc.ret ?_))
  exact Qfn.ret1 rfl rfl ⟨_, rfl, rfl, ⟨.inl hR, .inr ⟨b, hb.chg n2 id, hr.keep n2.keep⟩⟩, Chg.trans c1 n2.any fun _ _ e => e⟩
theorem quote_len (t : List UInt8) : (quoteM t).length ≤ 2 * t.length + 2 := by
  have h1 := List.count_le_length (a := (92 : UInt8)) (l := t)
  have h2 := List.count_le_length (a := (34 : UInt8)) (l := t)
  have h3 : t.count 92 + t.count 34 ≤ t.length := by
    clear h1 h2
    induction t with
    | nil => simp
    | cons c t ih =>
      rw [List.count_cons, List.count_cons, List.length_cons]
      by_cases h : c = 92
      · subst h; simp; omega
      · by_cases h' : c = 34 <;> simp [h, h'] <;> omega
  unfold quoteM
  rw [List.length_cons, List.length_append, esc_len, List.length_singleton]; omega
theorem joinTail_sum {sep : List UInt8} : ∀ (xs : List (List UInt8)), (Lib.joinTail sep (xs.map quoteM)).length ≤ (2 + sep.length) * (xs.flatMap (· ++ [(0 : UInt8)])).length
  | [] => by simp [Lib.joinTail]
  | x :: xs => by
    have e : Lib.joinTail sep ((x :: xs).map quoteM) = sep ++ quoteM x ++ Lib.joinTail sep (xs.map quoteM) := by simp [Lib.joinTail]
    have h1 := joinTail_sum (sep := sep) xs
    have h2 := quote_len x
    rw [e, List.length_append, List.length_append, List.flatMap_cons, List.length_append, List.length_append, List.length_singleton, Nat.mul_add, Nat.mul_add, Nat.mul_one]
    have h3 : 2 * x.length ≤ (2 + sep.length) * x.length := Nat.mul_le_mul_right _ (by omega)
    omega
theorem join_sum {sep : List UInt8} (xs : List (List UInt8)) : (Lib.join (xs.map quoteM) sep).length ≤ (2 + sep.length) * (xs.flatMap (· ++ [(0 : UInt8)])).length := by
  cases xs with
  | nil => simp [Lib.join, List.intercalate]
  | cons x r =>
    rw [List.map_cons, Lib.join_cons, List.length_append, List.flatMap_cons, List.length_append, List.length_append, List.length_singleton, Nat.mul_add, Nat.mul_add, Nat.mul_one]
    have h1 := joinTail_sum (sep := sep) r
    have h2 := quote_len x
    have h3 : 2 * x.length ≤ (2 + sep.length) * x.length := Nat.mul_le_mul_right _ (by omega)
    omega
theorem txts_sum {v : List UInt8} (h : tform v = 0) : (txts v).flatMap (· ++ [0]) = v := by
  have hof := of_txts h
  unfold ofTexts at hof
  split at hof
  · simp at hof
  · rw [Prod.mk.injEq] at hof; exact hof.1
theorem len_flat : ∀ (xs : List (List UInt8)), xs.length ≤ (xs.flatMap (· ++ [(0 : UInt8)])).length
  | [] => by simp
  | x :: xs => by
    have := len_flat xs
    rw [List.flatMap_cons, List.length_append, List.length_append, List.length_singleton, List.length_cons]; omega
set_option maxHeartbeats 1000000 in
theorem ShowW_spec {w : World} {l : List UInt8} (hl : l.length ≤ 100000000) (hlk : look l = 1) :
    Calls Tryz.prog 12 #[vs l] w (Ret fun r w' => r = vs (showM l) ∧ New w w') := by
  obtain ⟨hs, hp⟩ : showM l = Lib.join ((txts l).map quoteM) [44, 32] ∧ plainB (tform l) (txts l) = true := by
    rcases look_show l with h | h | h | h
    · rw [h.1] at hlk; cases hlk
    · exact ⟨h.2.2.2, h.2.2.1⟩
    · rw [h.1] at hlk; cases hlk
    · rw [h.1] at hlk; cases hlk
  obtain ⟨ht, _, _⟩ := plainB_spec hp
  have hfl := congrArg List.length (txts_sum ht)
  have hjl : (Lib.join ((txts l).map quoteM) [44, 32]).length ≤ 400000000 := by
    have := join_sum (sep := [44, 32]) (txts l)
    simp only [List.length_cons, List.length_nil] at this
    omega
  have hxl := len_flat (txts l)
  have htl := txts_le (l := l)
  refine calls_of_Wc Tryz.func12 rfl Tryz.ntmps12 rfl ?_
  (repeat' (first | refine Wl.moveE (by conv => { lhs; whnf }) ?_ | refine Wl.assignE (by conv => { lhs; whnf }) ?_ | refine Wl.nil ?_ | refine Qseq.normal ?_ | refine Wc.seq ?_ | refine Wc.region ?_))
  refine Wl.call (cLook_spec hl) rfl ?_
  rintro _ w1 ⟨rfl, n1⟩
  rw [hlk]
  (repeat' (first | refine Wl.assignE (by conv => { lhs; whnf }) ?_ | refine Wl.nil ?_ | refine Qseq.normal ?_ | refine Wc.seq ?_ | refine Wc.region ?_ | refine Wc.block ?_ | refine Wc.condT rfl ?_ | refine Wc.condF rfl ?_ | (refine Wl.eql rfl rfl (fun _ => ?_) (fun _ => ?_) <;> (first | (exfalso; omega) | skip))))
  refine Wl.buildSliceN (N := 4) (R := one vs) (Pe := fun _ => False) (xs := oldL) (us := oldL.map vs) goodStr rfl rfl ⟨rfl, rfl, rfl, rfl, rfl, rfl, rfl, rfl, trivial⟩ (show 0 < 4 * 1 by omega) (show 4 * 1 ≤ 16777216 by omega) fun v2 w2 ho2 n2 s2 hb2 => ?_
  refine Wl.call (NewReplacer_spec (ho2.rd goodStr.mo)) rfl ?_
  rintro _ w3 ⟨R, rfl, hR, n3⟩
  (repeat' (first | refine Wl.moveE (by conv => { lhs; whnf }) ?_ | refine Wl.assignE (by conv => { lhs; whnf }) ?_ | refine Wl.nil ?_ | refine Qseq.normal ?_ | refine Wc.seq ?_ | refine Wc.region ?_))
  refine Wl.call (cTexts_spec hl) rfl ?_
  rintro _ w4 ⟨tv, rfl, ot, n4⟩
  have rt := rd_at (ot.rd goodStr.mo)
  have hR4 := (hR.mono (Pb' := fun k => w2.heap.size ≤ k ∧ k < w3.heap.size) fun k hk h => ⟨h, hk⟩).keep n4.keep
  have hRl := hR.lt
  obtain ⟨a, cap, rfl, hcap, hmax⟩ := rt.form
  simp only [maxLen] at hmax
  generalize txts l = xs at *
  clear ot hR ho2
  have n13 := n1.trans (n2.trans n3)
  have n14 := n13.trans n4
  have hs4 := n4.size
  have hs3 := n3.size
  have hs2 := n2.size
  have hs1 := n1.size
  (repeat' (first | refine Wl.moveE (by conv => { lhs; whnf }) ?_ | refine Wl.assignE (by conv => { lhs; whnf }) ?_ | refine Wl.nil ?_ | refine Wl.extract rfl rfl ?_ | refine Wl.lenS rfl ?_ | refine Qseq.normal ?_ | refine Wc.seq ?_ | refine Wc.region ?_ | refine Wc.block ?_))
  refine Wc.loop (σ := Nat × Value) (fun q => [(3, q.2), (4, .pointer (some ⟨R, 0, none⟩)), (28, .slice a xs.length cap), (29, vi xs.length), (30, vi q.1)])
    (fun q w' => q.1 ≤ xs.length ∧ OwnS (one vs) 9 1 (fun b => w4.heap.size ≤ b) (fun _ => False) w' q.2 ((xs.take q.1).map quoteM) ∧ RepS (fun b => w1.heap.size ≤ b ∧ q.2.ownBlock ≠ some b) w' R ∧ Chg (fun b => b = R) w4 w') (fun q => xs.length - q.1) (0, nilS) ⟨rfl, rfl, rfl, rfl, rfl, trivial⟩
    ⟨Nat.zero_le _, OwnS.nil, hR4.mono fun k _ h => ⟨by have := h.1; omega, fun e => by cases e⟩, Chg.refl _ _⟩ ?_
  rintro ⟨i, lv⟩ G w5 ⟨hi, ho, hR5, c5⟩
  dsimp only at hi ho hR5
  simp only [upds]
  have hs5 := c5.size
  (repeat' (first | refine Wl.moveE (by conv => { lhs; whnf }) ?_ | refine Wl.nil ?_ | refine Qseq.normal ?_ | refine Wc.seq ?_ | refine Wc.region ?_ | refine Wc.block ?_ | refine Wc.skip ?_ | refine Wc.exit ?_ | refine Qseq.exit ?_ | refine Qblk.hit ?_ | refine Qloop.exit ?_ | refine Wc.condT rfl ?_ | refine Wc.condF rfl ?_ | refine Wl.lss rfl rfl (fun _ => ?_) (fun _ => ?_)))
  · obtain ⟨t, htx⟩ := get_lt' xs (k := i) (by omega)
    have htl2 := htl t (List.mem_of_getElem? htx)
    have rt5 := rt.keep (stable_one _) (c5.keep fun b _ hb e => by
      rcases hb.1 with h | h
      · omega
      · exact h)
    refine Wl.idxLoadV rt5 rfl rfl (by omega) (by rw [Int.toNat_natCast]; exact htx) rfl rfl fun p => ?_
    (repeat' (first | refine Wl.moveE (by conv => { lhs; whnf }) ?_ | refine Wl.assignE (by conv => { lhs; whnf }) ?_ | refine Wl.nil ?_ | refine Qseq.normal ?_ | refine Wc.region ?_))
    refine Wl.call (RReplace_spec hR5 (show t.length ≤ 100000000 by omega)) rfl ?_
    rintro _ w6 ⟨rfl, hR6, c6⟩
    have hs6 := c6.size
    have hel := quote_len t
    have hel2 : (t.flatMap esc).length ≤ 2 * t.length := by
      unfold quoteM at hel
      rw [List.length_cons, List.length_append, List.length_singleton] at hel; omega
    refine Wl.sadd (a := [34]) rfl rfl (by simp only [List.length_singleton]; omega) ?_
    refine Wl.sadd (b := [34]) rfl rfl (by simp only [List.length_append, List.length_singleton]; omega) ?_
    have ho6 := ho.keepP (c6.keep fun b _ hb e => by omega)
    have hml : ((xs.take i).map quoteM).length ≤ 100000000 := by simp only [List.length_map, List.length_take]; omega
    have hR6' := hR6.mono (Pb' := fun k => w1.heap.size ≤ k ∧ lv.ownBlock ≠ some k ∧ k < w6.heap.size) fun k hk h => by
      rcases h with h | h
      · exact ⟨h.1, h.2, hk⟩
      · exact ⟨by omega, fun e => by have := (ho.lt e).2; omega, hk⟩
    refine Wl.append1 (y := quoteM t) goodStr ho6 rfl rfl rfl rfl rfl (by omega) (by omega) (by simp only [maxLen]; omega) (by omega) rfl rfl fun v7 w7 p ho7 hc7 hv7 => ?_
    have hR7 := hR6'.keep (hc7.keep fun b _ hb e => hb.2.1 e)
    (repeat' (first | refine Wl.moveE (by conv => { lhs; whnf }) ?_ | refine Wl.assignE (by conv => { lhs; whnf }) ?_ | refine Wl.nil ?_ | refine Qseq.normal ?_ | refine Wc.region ?_ | refine Qblk.normal ?_ | refine Wl.add rfl rfl (by omega) (by omega) ?_))
    refine Qloop.normal (i + 1, v7) ⟨rfl, rfl, rfl, rfl, rfl, trivial⟩ ⟨by dsimp only; omega, ?_, ?_, Chg.trans (Chg.trans c5 c6 fun _ _ e => e) hc7 fun k hk e => by have := (ho6.lt e).1; omega⟩ (by dsimp only; omega)
    · dsimp only
      rw [List.take_add_one, htx, List.map_append]
      exact ho7.mono goodStr.mo (fun b _ hb => by rcases hb with hb | hb <;> omega) (fun _ _ h => h)
    · dsimp only
      refine hR7.mono fun k _ h => ⟨h.1, fun e => ?_⟩
      rcases hv7 with h' | h'
      · exact h.2.1 (h' ▸ e)
      · have := h' k e; have := h.2.2; omega
  · have hi2 : i = xs.length := by omega
    subst hi2
    rw [List.take_length] at ho
    refine Wl.call (Join_spec (ho.rd goodStr.mo) (by rw [List.length_map]; omega) (by omega)) rfl ?_
    rintro _ w6 ⟨rfl, n6⟩
    (repeat' (first | refine Wl.assignE (by conv => { lhs; whnf }) ?_ | refine Wl.nil ?_ | refine Qseq.normal ?_ | refine Wc.ret ?_ | refine Qseq.ret ?_ | refine Qblk.ret ?_))
    refine Qfn.ret1 rfl rfl ⟨_, rfl, by rw [hs]; rfl, Chg.trans n14 (Chg.trans c5 n6.any fun _ _ e => e) fun k hk e => ?_⟩
    have := hR5.1.1
    omega
/-- Show, of any value. -/
theorem Show_spec {w : World} {l : List UInt8} (hD : DeB w) (hl : l.length ≤ 100000000) : Calls Tryz.prog 12 #[vs l] w (Ret fun r w' => r = vs (showM l) ∧ New w w') := by
  by_cases h : look l = 1
  · exact ShowW_spec hl h
  · exact ShowN_spec hD hl h
/-- Parse, of any text. -/
theorem ParseS_spec {w : World} {s : List UInt8} (hD : DeB w) (hE : ErrV w) (hl : s.length ≤ 20000000) :
    Calls Tryz.prog 14 #[vs s] w (Ret fun r w' => r = .tuple #[vs (parseM s).1, vi (parseM s).2] ∧ New w w') :=
  cParse_spec hE hl fun _ _ hv _ n' => Show_spec (hD.new n') (by omega)
end Go.Proofs.YthppadlcejpgbaaGreatDoor

namespace Go.Proofs.YthppadlcejpgbaaGreatDoor
open Go Wk
open Go.RowKit (Below)
attribute [local irreducible] Go.Calls

theorem aw1 : nums 4 [0, 0, 0, 1, 255, 255, 255, 255] = [1, 4294967295] ∧ form 4 [0, 0, 0, 1, 255, 255, 255, 255] = 0 := by decide +kernel
theorem aw2 : txts [97, 98, 0, 99, 0] = [[97, 98], [99]] ∧ tform [97, 98, 0, 99, 0] = 0 := by decide +kernel
theorem aw3 : candM [60, 48, 120, 49, 32, 48, 120, 102, 102, 62] = some [0, 0, 0, 1, 0, 0, 0, 255] ∧ look [0, 0, 0, 1, 0, 0, 0, 255] ≠ 1 := by decide +kernel
theorem aw4 : parseM [60, 48, 120, 49, 32, 48, 120, 102, 102, 62] = ([0, 0, 0, 1, 0, 0, 0, 255], 0) := by decide +kernel
theorem awake_spec {w : World} (hD : DeB w) (hE : ErrV w) : Calls Tryz.prog 16 #[] w (Ret fun r w' => r = .bool true ∧ New w w') := by
  refine calls_of_Wc Tryz.func16 rfl Tryz.ntmps16 rfl ?_
  (repeat' (first | refine Wl.assignE (by conv => { lhs; whnf }) ?_ | refine Wl.nil ?_ | refine Qseq.normal ?_ | refine Wc.seq ?_ | refine Wc.region ?_))
  refine Wl.call (cU32s_spec (l := [0, 0, 0, 1, 255, 255, 255, 255]) (by decide)) rfl ?_
  rintro _ w1 ⟨v1, rfl, o1, n1⟩
  rw [aw1.1] at o1
  rw [aw1.2]
  (repeat' (first | refine Wl.moveE (by conv => { lhs; whnf }) ?_ | refine Wl.assignE (by conv => { lhs; whnf }) ?_ | refine Wl.nil ?_ | refine Wl.extract rfl rfl ?_ | refine Qseq.normal ?_ | refine Wc.seq ?_ | refine Wc.region ?_))
  refine Wl.call (cTexts_spec (l := [97, 98, 0, 99, 0]) (by decide)) rfl ?_
  rintro _ w2 ⟨v2, rfl, o2, n2⟩
  rw [aw2.1] at o2
  rw [aw2.2]
  (repeat' (first | refine Wl.moveE (by conv => { lhs; whnf }) ?_ | refine Wl.assignE (by conv => { lhs; whnf }) ?_ | refine Wl.nil ?_ | refine Wl.extract rfl rfl ?_ | refine Qseq.normal ?_ | refine Wc.seq ?_ | refine Wc.region ?_))
  have n12 := New.trans n1 n2
  refine Wl.call (cParse_spec (s := [60, 48, 120, 49, 32, 48, 120, 102, 102, 62]) (hE.new n12) (by decide) (fun v hv hvl w' n' => ?_)) rfl ?_
  · have : v = [0, 0, 0, 1, 0, 0, 0, 255] := by rw [aw3.1] at hv; exact (Option.some.inj hv).symm
    subst this
    exact ShowN_spec ((hD.new n12).new n') (by decide) aw3.2
  rintro _ w3 ⟨rfl, n3⟩
  rw [aw4]
  have r1 := (o1.rd good32.mo).keep (stable_one _) (New.trans n2 n3).keep
  have r2 := (o2.rd goodStr.mo).keep (stable_one _) n3.keep
  obtain ⟨a1, c1, rfl, _, _⟩ := r1.form
  obtain ⟨a2, c2, rfl, _, _⟩ := r2.form
  (repeat' (first | refine Wl.moveE (by conv => { lhs; whnf }) ?_ | refine Wl.assignE (by conv => { lhs; whnf }) ?_ | refine Wl.nil ?_ | refine Wl.extract rfl rfl ?_ | refine Wl.guardY rfl rfl ?_ | refine Wl.pickTE rfl (by conv => { lhs; whnf }) ?_ | refine Wl.lenS rfl ?_ | refine Qseq.normal ?_ | refine Wc.seq ?_ | refine Wc.region ?_ | (refine Wl.eql rfl rfl (fun _ => ?_) (fun _ => ?_) <;> (first | (exfalso; omega) | (exfalso; contradiction) | skip))))
  refine Wl.idxAddrV r1 rfl rfl (by omega) rfl fun b o hc => ?_
  (repeat' (refine Wl.guardY rfl rfl ?_))
  refine Wl.load1 rfl hc ?_
  (repeat' (first | refine Wl.moveE (by conv => { lhs; whnf }) ?_ | refine Wl.guardY rfl rfl ?_ | refine Wl.pickTE rfl (by conv => { lhs; whnf }) ?_ | (refine Wl.eql rfl rfl (fun _ => ?_) (fun _ => ?_) <;> (first | (exfalso; omega) | skip))))
  refine Wl.idxAddrV r1 rfl rfl (by omega) rfl fun b o hc => ?_
  (repeat' (refine Wl.guardY rfl rfl ?_))
  refine Wl.load1 rfl hc ?_
  (repeat' (first | refine Wl.moveE (by conv => { lhs; whnf }) ?_ | refine Wl.guardY rfl rfl ?_ | refine Wl.pickTE rfl (by conv => { lhs; whnf }) ?_ | refine Wl.lenS rfl ?_ | (refine Wl.eql rfl rfl (fun _ => ?_) (fun _ => ?_) <;> (first | (exfalso; omega) | (exfalso; contradiction) | skip))))
  refine Wl.idxAddrV r2 rfl rfl (by omega) rfl fun b o hc => ?_
  (repeat' (refine Wl.guardY rfl rfl ?_))
  refine Wl.load1 rfl hc ?_
  (repeat' (first | refine Wl.moveE (by conv => { lhs; whnf }) ?_ | refine Wl.guardY rfl rfl ?_ | refine Wl.pickTE rfl (by conv => { lhs; whnf }) ?_ | (refine Wl.seql rfl rfl (fun _ => ?_) (fun _ => ?_) <;> (first | (exfalso; contradiction) | skip))))
  refine Wl.idxAddrV r2 rfl rfl (by omega) rfl fun b o hc => ?_
  (repeat' (refine Wl.guardY rfl rfl ?_))
  refine Wl.load1 rfl hc ?_
  (repeat' (first | refine Wl.moveE (by conv => { lhs; whnf }) ?_ | refine Wl.assignE (by conv => { lhs; whnf }) ?_ | refine Wl.nil ?_ | refine Wl.guardY rfl rfl ?_ | refine Wl.pickTE rfl (by conv => { lhs; whnf }) ?_ | refine Qseq.normal ?_ | refine Wc.ret ?_ | (refine Wl.seql rfl rfl (fun _ => ?_) (fun _ => ?_) <;> (first | (exfalso; contradiction) | skip))))
  exact Qfn.ret1 rfl rfl ⟨_, rfl, rfl, n12.trans n3⟩
end Go.Proofs.YthppadlcejpgbaaGreatDoor

namespace Go.Proofs.YthppadlcejpgbaaGreatDoor
open Go Wk
open Go.RowKit (Below)
attribute [local irreducible] Go.Calls

theorem rd_low {α : Type} {f : α → Value} {Pb : Nat → Prop} {w : World} {v : Value} {xs : List α} (h : RdS (one f) 1 Pb w v xs) : RdS (one f) 1 (fun b => b < w.heap.size) w v xs := by
  rcases h with h | h | ⟨b, off, c2, cur, e, fr, hv, hb, hh, h⟩
  · exact .inl h
  · exact .inr (.inl h)
  · exact .inr (.inr ⟨b, off, c2, cur, e, fr, hv, heap_lt hh, hh, h⟩)
theorem quoK {l : List UInt8} (k : Nat) (hl : l.length ≤ 100000000) : IntKind.i64.wrap ((l.length : Int).tdiv (k : Int)) = ((l.length / k : Nat) : Int) := by
  have e : (l.length : Int).tdiv (k : Int) = ((l.length / k : Nat) : Int) := rfl
  exact wrapI64 e (by have := Nat.div_le_self l.length k; omega)
theorem wide_at {l : List UInt8} {i : Nat} (n : Nat) (hn : n = 1 ∨ n = 2) (hi : i < l.length / (4 * n)) : wide (l.drop (4 * n * i)) (n : Int) = (number ((l.drop (4 * n * i)).take (4 * n)), 0, l.drop (4 * n * (i + 1))) := by
  have h1 : 4 * n * (i + 1) ≤ l.length := Nat.le_trans (Nat.mul_le_mul_left _ hi) (Nat.mul_div_le _ _)
  rw [Nat.mul_add, Nat.mul_one] at h1
  rw [wide_ok (by omega) (by omega) (by rw [List.length_drop]; omega)]
  rw [show (4 * (n : Int)).toNat = 4 * n by omega, List.drop_drop, Nat.mul_add, Nat.mul_one]
theorem wide_end {l : List UInt8} (n : Nat) (hn : n = 1 ∨ n = 2) : wide (l.drop (4 * n * (l.length / (4 * n)))) (n : Int) = (0, 4, l.drop (4 * n * (l.length / (4 * n)))) := by
  have h1 := Nat.div_add_mod l.length (4 * n)
  have h2 := Nat.mod_lt l.length (show 0 < 4 * n by omega)
  exact wide_form (by omega) (by omega) (by rw [List.length_drop]; omega)
theorem end_len {l : List UInt8} (k : Nat) : (l.drop (k * (l.length / k))).length = l.length % k := by
  have h1 := Nat.div_add_mod l.length k
  rw [List.length_drop]; omega
theorem txts_ok {l : List UInt8} (h : tform l = 0) : txts l = (cutS l).1 ∧ (cutS l).2 = [] := by
  have he : l = [] ∨ l.getLast? = some 0 := by
    unfold tform at h
    split at h
    · assumption
    · cases h
  exact ⟨(t_ok he).2, (cutS_end l).2 he⟩
theorem LeftR_spec {w : World} {b : Nat} {l : List UInt8} (h : Bk w b 57 [vs l]) : Calls Tryz.prog 11 #[.pointer (some ⟨b, 0, none⟩)] w (Ret fun r w' => r = vi l.length ∧ w = w') := by
  refine (Left_spec h).mono ?_
  rintro e w' ⟨rfl, rfl⟩
  exact ⟨_, rfl, rfl, rfl⟩
set_option maxHeartbeats 4000000 in
theorem walks_law {w : World} {l : List UInt8} (hD : DeB w) (hE : ErrV w) (hl : l.length ≤ 1048576) :
    Calls Tryz.prog 6 #[vs l] w (Ret fun r w' => r = .bool true ∧ New w w') := by
  have hll : l.length ≤ 100000000 := by omega
  have e4 : IntKind.i64.wrap ((l.length : Int).tdiv 4) = ((l.length / 4 : Nat) : Int) := quoK 4 hll
  have e8 : IntKind.i64.wrap ((l.length : Int).tdiv 8) = ((l.length / 8 : Nat) : Int) := quoK 8 hll
  refine calls_of_Wc Tryz.func6 rfl Tryz.ntmps6 rfl ?_
  (repeat' (first | refine Wl.assignE (by conv => { lhs; whnf }) ?_ | refine Wl.nil ?_ | refine Qseq.normal ?_ | refine Wc.seq ?_ | refine Wc.region ?_))
  refine Wl.call (awake_spec hD hE) rfl ?_
  rintro _ w0 ⟨rfl, n0⟩
  (repeat' (first | refine Wl.moveE (by conv => { lhs; whnf }) ?_ | refine Wl.nil ?_ | refine Wl.notB rfl ?_ | refine Qseq.normal ?_ | refine Wc.seq ?_ | refine Wc.region ?_ | refine Wc.skip ?_ | refine Wc.condF rfl ?_))
  refine Wl.call (cU32s_spec hll) rfl ?_
  rintro _ w1 ⟨v1, rfl, o1, n1⟩
  (repeat' (first | refine Wl.moveE (by conv => { lhs; whnf }) ?_ | refine Wl.assignE (by conv => { lhs; whnf }) ?_ | refine Wl.nil ?_ | refine Wl.extract rfl rfl ?_ | refine Qseq.normal ?_ | refine Wc.seq ?_ | refine Wc.region ?_))
  refine Wl.call (cU64s_spec hll) rfl ?_
  rintro _ w2 ⟨v2, rfl, o2, n2⟩
  (repeat' (first | refine Wl.moveE (by conv => { lhs; whnf }) ?_ | refine Wl.assignE (by conv => { lhs; whnf }) ?_ | refine Wl.nil ?_ | refine Wl.extract rfl rfl ?_ | refine Qseq.normal ?_ | refine Wc.seq ?_ | refine Wc.region ?_))
  refine Wl.call (cTexts_spec hll) rfl ?_
  rintro _ w3 ⟨v3, rfl, o3, n3⟩
  have r1 := rd_low ((o1.rd good32.mo).keep (stable_one _) (New.trans n2 n3).keep)
  have r2 := rd_low ((o2.rd good64.mo).keep (stable_one _) n3.keep)
  have r3 := rd_low (o3.rd goodStr.mo)
  clear o1 o2 o3
  (repeat' (first | refine Wl.moveE (by conv => { lhs; whnf }) ?_ | refine Wl.assignE (by conv => { lhs; whnf }) ?_ | refine Wl.nil ?_ | refine Wl.extract rfl rfl ?_ | refine Qseq.normal ?_ | refine Wc.seq ?_ | refine Wc.region ?_))
  refine Wl.call New_spec rfl ?_
  rintro _ w4 ⟨rfl, p4, n4⟩
  (repeat' (first | refine Wl.moveE (by conv => { lhs; whnf }) ?_ | refine Wl.assignE (by conv => { lhs; whnf }) ?_ | refine Wl.nil ?_ | refine Qseq.normal ?_ | refine Wc.seq ?_ | refine Wc.region ?_))
  refine Wl.call New_spec rfl ?_
  rintro _ w5 ⟨rfl, q5, n5⟩
  (repeat' (first | refine Wl.moveE (by conv => { lhs; whnf }) ?_ | refine Wl.assignE (by conv => { lhs; whnf }) ?_ | refine Wl.nil ?_ | refine Qseq.normal ?_ | refine Wc.seq ?_ | refine Wc.region ?_))
  refine Wl.call New_spec rfl ?_
  rintro _ w6 ⟨rfl, s6, n6⟩
  have hp4 := p4.lt
  have hq5 := q5.lt
  have hs6 := s6.lt
  have p6 := (p4.chg n5 id).chg n6 id
  have q6 := q5.chg n6 id
  have n36 := New.trans n4 (New.trans n5 n6)
  have r1 := r1.keep (stable_one _) n36.keep
  have r2 := r2.keep (stable_one _) n36.keep
  have r3 := r3.keep (stable_one _) n36.keep
  have nw3 := New.trans n0 (New.trans n1 (New.trans n2 n3))
  have n06 := New.trans nw3 n36
  have hs3 := nw3.size
  obtain ⟨a1, c1, rfl, hc1, hm1⟩ := r1.form
  obtain ⟨a2, c2, rfl, hc2, hm2⟩ := r2.form
  obtain ⟨a3, c3, rfl, hc3, hm3⟩ := r3.form
  simp only [maxLen] at hm1 hm2 hm3
  generalize w3.heap.size = P at *
  generalize w4.heap.size = Qb at *
  generalize w5.heap.size = Sb at *
  clear p4 q5 n4 n5 n6 n36 n0 n1 n2 n3 nw3
  (repeat' (first | refine Wl.assignE (by conv => { lhs; whnf }) ?_ | refine Wl.nil ?_ | refine Qseq.normal ?_ | refine Wc.seq ?_ | refine Wc.region ?_ | refine Wc.block ?_))
  have kp : ∀ {w'}, Chg (fun b => P ≤ b) w6 w' → Keep (fun b => b < P) w6 w' := fun h => h.keep fun b _ hb hp => by omega
  have e41 := fun i (hi : i < l.length / 4) => wide_at (l := l) (i := i) 1 (.inl rfl) hi
  have e42 := fun i (hi : i < l.length / 8) => wide_at (l := l) (i := i) 2 (.inr rfl) hi
  refine Wc.loop (σ := Nat) (fun i => [(0, vs l), (3, .slice a1 (nums 4 l).length c1), (4, vi (form 4 l)), (5, .slice a2 (nums 8 l).length c2), (6, vi (form 8 l)), (7, .slice a3 (txts l).length c3), (8, vi (tform l)), (9, .pointer (some ⟨P, 0, none⟩)), (10, .pointer (some ⟨Qb, 0, none⟩)), (11, .pointer (some ⟨Sb, 0, none⟩)), (12, vi i)])
    (fun i w' => i ≤ l.length / 4 ∧ Bk w' P 57 [vs (l.drop (4 * 1 * i))] ∧ Bk w' Qb 57 [vs l] ∧ Bk w' Sb 57 [vs l] ∧ Chg (fun b => P ≤ b) w6 w') (fun i => l.length / 4 - i) 0 ⟨rfl, rfl, rfl, rfl, rfl, rfl, rfl, rfl, rfl, rfl, rfl, trivial⟩ ⟨Nat.zero_le _, p6, q6, s6, Chg.refl _ _⟩ ?_
  rintro i G w' ⟨hi, p7, q7, s7, c7⟩
  clear p6 q6 s6
  simp only [upds]
  (repeat' (first | refine Wl.moveE (by conv => { lhs; whnf }) ?_ | refine Wl.lenStr rfl ?_ | refine Wc.seq ?_ | refine Wc.region ?_))
  refine Wl.quoW rfl rfl (by omega) ?_
  rw [e4]
  (repeat' (first | refine Wl.moveE (by conv => { lhs; whnf }) ?_ | refine Wl.assignE (by conv => { lhs; whnf }) ?_ | refine Wl.nil ?_ | refine Qseq.normal ?_ | refine Wc.seq ?_ | refine Wc.region ?_ | refine Wc.block ?_ | refine Wc.skip ?_ | refine Wc.exit ?_ | refine Qseq.exit ?_ | refine Qblk.hit ?_ | refine Qloop.exit ?_ | refine Wc.condT rfl ?_ | refine Wc.condF rfl ?_ | refine Wl.lss rfl rfl (fun _ => ?_) (fun _ => ?_)))
  · have hi4 : i < l.length / 4 := by omega
    refine Wl.call (Cell_spec p7) rfl ?_
    rintro _ w8 ⟨rfl, p8, c8⟩
    have hw := e41 i hi4
    rw [show ((1 : Nat) : Int) = 1 from rfl] at hw
    rw [hw] at p8 ⊢
    have hn := number_lt ((l.drop (4 * 1 * i)).take (4 * 1))
    have hn2 : 256 ^ ((l.drop (4 * 1 * i)).take (4 * 1)).length ≤ 256 ^ 4 := pow_le _ _ (by simp; omega)
    have hn3 : (256 : Nat) ^ 4 = 4294967296 := by decide
    have hwr : IntKind.u32.wrap ((number ((l.drop (4 * 1 * i)).take (4 * 1)) : Nat) : Int) = ((number ((l.drop (4 * 1 * i)).take (4 * 1)) : Nat) : Int) := wrap_u rfl (by omega) (by simp only [IntKind.bits]; omega)
    rw [hwr]
    have q8 := q7.chg c8 (by omega)
    have s8 := s7.chg c8 (by omega)
    have c68 : Chg (fun b => P ≤ b) w6 w8 := Chg.trans c7 c8 fun k _ e => by omega
    (repeat' (first | refine Wl.moveE (by conv => { lhs; whnf }) ?_ | refine Wl.assignE (by conv => { lhs; whnf }) ?_ | refine Wl.nil ?_ | refine Wl.extract rfl rfl ?_ | refine Wl.guardY rfl rfl ?_ | refine Wl.guardN rfl rfl ?_ | refine Wl.pickFE rfl (by conv => { lhs; whnf }) ?_ | refine Qseq.normal ?_ | refine Wc.seq ?_ | refine Wc.region ?_ | refine Wc.skip ?_ | refine Qblk.normal ?_ | refine Wc.condF rfl ?_ | refine Wl.add rfl rfl (by omega) (by omega) ?_ | refine Wl.eql rfl rfl (fun _ => ?_) (fun _ => ?_) | (refine Wl.neq rfl rfl (fun _ => ?_) (fun _ => ?_) <;> (first | (exfalso; contradiction) | skip))))
    · have h0 : form 4 l = 0 := by assumption
      have hnm : nums 4 l = pieces 4 l := by
        unfold form at h0
        split at h0
        · exact (form_ok (by assumption)).2
        · cases h0
      refine Wl.idxAddrV (y := ((number ((l.drop (4 * 1 * i)).take (4 * 1)) : Nat) : Int)) (r1.keep (stable_one _) (kp c68)) rfl rfl (by omega) (by rw [hnm, Int.toNat_natCast]; exact pieces_get hi4) fun b o hc => ?_
      (repeat' (refine Wl.guardY rfl rfl ?_))
      refine Wl.load1 rfl hc ?_
      (repeat' (first | refine Wl.moveE (by conv => { lhs; whnf }) ?_ | refine Wl.assignE (by conv => { lhs; whnf }) ?_ | refine Wl.nil ?_ | refine Wl.guardY rfl rfl ?_ | refine Wl.pickTE rfl (by conv => { lhs; whnf }) ?_ | refine Wl.pickFE rfl (by conv => { lhs; whnf }) ?_ | refine Qseq.normal ?_ | refine Wc.region ?_ | refine Wc.skip ?_ | refine Qblk.normal ?_ | refine Wc.condF rfl ?_ | refine Wl.add rfl rfl (by omega) (by omega) ?_ | (refine Wl.neq rfl rfl (fun _ => ?_) (fun _ => ?_) <;> (first | (exfalso; omega) | skip))))
      exact Qloop.normal (i + 1) ⟨rfl, rfl, rfl, rfl, rfl, rfl, rfl, rfl, rfl, rfl, rfl, trivial⟩ ⟨by omega, p8, q8, s8, c68⟩ (by omega)
    · exact Qloop.normal (i + 1) ⟨rfl, rfl, rfl, rfl, rfl, rfl, rfl, rfl, rfl, rfl, rfl, trivial⟩ ⟨by omega, p8, q8, s8, c68⟩ (by omega)
  have hi4 : i = l.length / 4 := by omega
  subst hi4
  obtain ⟨LP, hLP⟩ : ∃ LP, LP = l.drop (4 * 1 * (l.length / 4)) := ⟨_, rfl⟩
  have hLPw := wide_end (l := l) 1 (.inl rfl)
  have hLPl := end_len (l := l) 4
  rw [show 4 * 1 = 4 from rfl] at hLPw hLP
  rw [← hLP] at p7 hLPw hLPl
  skip
  refine Wc.loop (σ := Nat) (fun i => [(0, vs l), (3, .slice a1 (nums 4 l).length c1), (4, vi (form 4 l)), (5, .slice a2 (nums 8 l).length c2), (6, vi (form 8 l)), (7, .slice a3 (txts l).length c3), (8, vi (tform l)), (9, .pointer (some ⟨P, 0, none⟩)), (10, .pointer (some ⟨Qb, 0, none⟩)), (11, .pointer (some ⟨Sb, 0, none⟩)), (15, vi i)])
    (fun i w' => i ≤ l.length / 8 ∧ Bk w' P 57 [vs LP] ∧ Bk w' Qb 57 [vs (l.drop (4 * 2 * i))] ∧ Bk w' Sb 57 [vs l] ∧ Chg (fun b => P ≤ b) w6 w') (fun i => l.length / 8 - i) 0 ⟨rfl, rfl, rfl, rfl, rfl, rfl, rfl, rfl, rfl, rfl, rfl, trivial⟩ ⟨Nat.zero_le _, p7, q7, s7, c7⟩ ?_
  clear p7 q7 s7 c7 w'
  rintro i G w' ⟨hi, p7, q7, s7, c7⟩
  simp only [upds]
  (repeat' (first | refine Wl.moveE (by conv => { lhs; whnf }) ?_ | refine Wl.lenStr rfl ?_ | refine Wc.seq ?_ | refine Wc.region ?_))
  refine Wl.quoW rfl rfl (by omega) ?_
  rw [e8]
  (repeat' (first | refine Wl.moveE (by conv => { lhs; whnf }) ?_ | refine Wl.assignE (by conv => { lhs; whnf }) ?_ | refine Wl.nil ?_ | refine Qseq.normal ?_ | refine Wc.seq ?_ | refine Wc.region ?_ | refine Wc.block ?_ | refine Wc.skip ?_ | refine Wc.exit ?_ | refine Qseq.exit ?_ | refine Qblk.hit ?_ | refine Qloop.exit ?_ | refine Wc.condT rfl ?_ | refine Wc.condF rfl ?_ | refine Wl.lss rfl rfl (fun _ => ?_) (fun _ => ?_)))
  · have hi4 : i < l.length / 8 := by omega
    refine Wl.call (Wide_spec (n := 2) q7) rfl ?_
    rintro _ w8 ⟨rfl, q8, c8⟩
    have hw := e42 i hi4
    rw [show ((2 : Nat) : Int) = 2 from rfl] at hw
    rw [hw] at q8 ⊢
    have p8 := p7.chg c8 (by omega)
    have s8 := s7.chg c8 (by omega)
    have c68 : Chg (fun b => P ≤ b) w6 w8 := Chg.trans c7 c8 fun k _ e => by omega
    (repeat' (first | refine Wl.moveE (by conv => { lhs; whnf }) ?_ | refine Wl.assignE (by conv => { lhs; whnf }) ?_ | refine Wl.nil ?_ | refine Wl.extract rfl rfl ?_ | refine Wl.guardY rfl rfl ?_ | refine Wl.guardN rfl rfl ?_ | refine Wl.pickFE rfl (by conv => { lhs; whnf }) ?_ | refine Qseq.normal ?_ | refine Wc.seq ?_ | refine Wc.region ?_ | refine Wc.skip ?_ | refine Qblk.normal ?_ | refine Wc.condF rfl ?_ | refine Wl.add rfl rfl (by omega) (by omega) ?_ | refine Wl.eql rfl rfl (fun _ => ?_) (fun _ => ?_) | (refine Wl.neq rfl rfl (fun _ => ?_) (fun _ => ?_) <;> (first | (exfalso; contradiction) | skip))))
    · have h0 : form 8 l = 0 := by assumption
      have hnm : nums 8 l = pieces 8 l := by
        unfold form at h0
        split at h0
        · exact (form_ok (by assumption)).2
        · cases h0
      refine Wl.idxAddrV (y := ((number ((l.drop (4 * 2 * i)).take (4 * 2)) : Nat) : Int)) (r2.keep (stable_one _) (kp c68)) rfl rfl (by omega) (by rw [hnm, Int.toNat_natCast]; exact pieces_get hi4) fun b o hc => ?_
      (repeat' (refine Wl.guardY rfl rfl ?_))
      refine Wl.load1 rfl hc ?_
      (repeat' (first | refine Wl.moveE (by conv => { lhs; whnf }) ?_ | refine Wl.assignE (by conv => { lhs; whnf }) ?_ | refine Wl.nil ?_ | refine Wl.guardY rfl rfl ?_ | refine Wl.pickTE rfl (by conv => { lhs; whnf }) ?_ | refine Wl.pickFE rfl (by conv => { lhs; whnf }) ?_ | refine Qseq.normal ?_ | refine Wc.region ?_ | refine Wc.skip ?_ | refine Qblk.normal ?_ | refine Wc.condF rfl ?_ | refine Wl.add rfl rfl (by omega) (by omega) ?_ | (refine Wl.neq rfl rfl (fun _ => ?_) (fun _ => ?_) <;> (first | (exfalso; omega) | skip))))
      exact Qloop.normal (i + 1) ⟨rfl, rfl, rfl, rfl, rfl, rfl, rfl, rfl, rfl, rfl, rfl, trivial⟩ ⟨by omega, p8, q8, s8, c68⟩ (by omega)
    · exact Qloop.normal (i + 1) ⟨rfl, rfl, rfl, rfl, rfl, rfl, rfl, rfl, rfl, rfl, rfl, trivial⟩ ⟨by omega, p8, q8, s8, c68⟩ (by omega)
  have hi8 : i = l.length / 8 := by omega
  subst hi8
  obtain ⟨LQ, hLQ⟩ : ∃ LQ, LQ = l.drop (4 * 2 * (l.length / 8)) := ⟨_, rfl⟩
  have hLQw := wide_end (l := l) 2 (.inr rfl)
  have hLQl := end_len (l := l) 8
  rw [show 4 * 2 = 8 from rfl] at hLQw hLQ
  rw [← hLQ] at q7 hLQw hLQl
  skip
  refine Wc.loop (σ := Nat × List UInt8) (fun i => [(0, vs l), (3, .slice a1 (nums 4 l).length c1), (4, vi (form 4 l)), (5, .slice a2 (nums 8 l).length c2), (6, vi (form 8 l)), (7, .slice a3 (txts l).length c3), (8, vi (tform l)), (9, .pointer (some ⟨P, 0, none⟩)), (10, .pointer (some ⟨Qb, 0, none⟩)), (11, .pointer (some ⟨Sb, 0, none⟩)), (18, vi i.1)])
    (fun i w' => (tform l = 0 → i.1 ≤ (txts l).length ∧ (cutS i.2).1 = (txts l).drop i.1 ∧ (cutS i.2).2 = []) ∧ i.2.length ≤ l.length ∧ Bk w' P 57 [vs LP] ∧ Bk w' Qb 57 [vs LQ] ∧ Bk w' Sb 57 [vs i.2] ∧ Chg (fun b => P ≤ b) w6 w') (fun i => (txts l).length - i.1) (0, l) ⟨rfl, rfl, rfl, rfl, rfl, rfl, rfl, rfl, rfl, rfl, rfl, trivial⟩ ⟨fun h => ⟨Nat.zero_le _, by rw [(txts_ok h).1]; rfl, (txts_ok h).2⟩, Nat.le_refl _, p7, q7, s7, c7⟩ ?_
  clear p7 q7 s7 c7 w'
  rintro ⟨i, R⟩ G w' ⟨hR, hRl, p7, q7, s7, c7⟩
  dsimp only at hR hRl s7
  simp only [upds]
  (repeat' (first | refine Wl.moveE (by conv => { lhs; whnf }) ?_ | refine Wl.nil ?_ | refine Wl.guardY rfl rfl ?_ | refine Wl.guardN rfl rfl ?_ | refine Wl.pickTE rfl (by conv => { lhs; whnf }) ?_ | refine Wl.pickFE rfl (by conv => { lhs; whnf }) ?_ | refine Wl.lenS rfl ?_ | refine Qseq.normal ?_ | refine Wc.seq ?_ | refine Wc.region ?_ | refine Wc.block ?_ | refine Wc.skip ?_ | refine Wc.exit ?_ | refine Qseq.exit ?_ | refine Qblk.hit ?_ | refine Qloop.exit ?_ | refine Wc.condT rfl ?_ | refine Wc.condF rfl ?_ | refine Wl.lss rfl rfl (fun _ => ?_) (fun _ => ?_) | refine Wl.eql rfl rfl (fun _ => ?_) (fun _ => ?_)))
  · have h0 : tform l = 0 := by assumption
    obtain ⟨h1, h2, h3⟩ := hR h0
    have hi2 : i < (txts l).length := by omega
    obtain ⟨t, ht⟩ := get_lt' (txts l) (k := i) hi2
    rw [show (txts l).drop i = t :: (txts l).drop (i + 1) by
      obtain ⟨g1, g2⟩ := List.getElem?_eq_some_iff.1 ht
      rw [List.drop_eq_getElem_cons g1, g2]] at h2
    obtain ⟨R', e1, e2, e3, e4'⟩ := text_cut h2
    refine Wl.call (Text_spec s7 (by omega)) rfl ?_
    rintro _ w8 ⟨rfl, s8, c8⟩
    rw [e1] at s8 ⊢
    have p8 := p7.chg c8 (by omega)
    have q8 := q7.chg c8 (by omega)
    have c68 : Chg (fun b => P ≤ b) w6 w8 := Chg.trans c7 c8 fun k _ e => by omega
    (repeat' (first | refine Wl.moveE (by conv => { lhs; whnf }) ?_ | refine Wl.assignE (by conv => { lhs; whnf }) ?_ | refine Wl.nil ?_ | refine Wl.extract rfl rfl ?_ | refine Wl.guardY rfl rfl ?_ | refine Qseq.normal ?_ | refine Wc.seq ?_ | refine Wc.region ?_ | (refine Wl.neq rfl rfl (fun _ => ?_) (fun _ => ?_) <;> (first | (exfalso; contradiction) | skip))))
    refine Wl.idxAddrV (y := t) (r3.keep (stable_one _) (kp c68)) rfl rfl (by omega) (by rw [Int.toNat_natCast]; exact ht) fun b o hc => ?_
    (repeat' (refine Wl.guardY rfl rfl ?_))
    refine Wl.load1 rfl hc ?_
    (repeat' (first | refine Wl.moveE (by conv => { lhs; whnf }) ?_ | refine Wl.assignE (by conv => { lhs; whnf }) ?_ | refine Wl.nil ?_ | refine Wl.guardY rfl rfl ?_ | refine Wl.pickFE rfl (by conv => { lhs; whnf }) ?_ | refine Qseq.normal ?_ | refine Wc.region ?_ | refine Wc.skip ?_ | refine Qblk.normal ?_ | refine Wc.condF rfl ?_ | refine Wl.add rfl rfl (by omega) (by omega) ?_ | (refine Wl.sneq rfl rfl (fun _ => ?_) (fun _ => ?_) <;> (first | (exfalso; contradiction) | skip))))
    exact Qloop.normal (i + 1, R') ⟨rfl, rfl, rfl, rfl, rfl, rfl, rfl, rfl, rfl, rfl, rfl, trivial⟩ ⟨fun _ => ⟨hi2, e2, by rw [e3]; exact h3⟩, by dsimp only; omega, p8, q8, s8, c68⟩ (by dsimp only; omega)
  all_goals
    refine Wl.call (Cell_spec p7) rfl ?_
    rintro _ w8 ⟨rfl, p8, c8⟩
    rw [show ((1 : Nat) : Int) = 1 from rfl] at hLPw
    rw [hLPw] at p8 ⊢
    have q8 := q7.chg c8 (by omega)
    have s8 := s7.chg c8 (by omega)
    (repeat' (first | refine Wl.moveE (by conv => { lhs; whnf }) ?_ | refine Wl.assignE (by conv => { lhs; whnf }) ?_ | refine Wl.nil ?_ | refine Wl.extract rfl rfl ?_ | refine Qseq.normal ?_ | refine Wc.seq ?_ | refine Wc.region ?_))
    refine Wl.call (Wide_spec (n := 2) q8) rfl ?_
    rintro _ w9 ⟨rfl, q9, c9⟩
    rw [show ((2 : Nat) : Int) = 2 from rfl] at hLQw
    rw [hLQw] at q9 ⊢
    have p9 := p8.chg c9 (by omega)
    have s9 := s8.chg c9 (by omega)
    (repeat' (first | refine Wl.moveE (by conv => { lhs; whnf }) ?_ | refine Wl.assignE (by conv => { lhs; whnf }) ?_ | refine Wl.nil ?_ | refine Wl.extract rfl rfl ?_ | refine Qseq.normal ?_ | refine Wc.seq ?_ | refine Wc.region ?_))
    refine Wl.call (Text_spec s9 (by omega)) rfl ?_
    rintro _ w10 ⟨rfl, s10, c10⟩
    have p10 := p9.chg c10 (by omega)
    have q10 := q9.chg c10 (by omega)
    have cz : New w w10 := Chg.trans n06 (Chg.trans (Chg.trans (Chg.trans c7 c8 (M := fun b => P ≤ b) fun k _ e => by omega) c9 (M := fun b => P ≤ b) fun k _ e => by omega) c10 (M := fun b => P ≤ b) fun k _ e => by omega) fun k hk e => by omega
  · obtain ⟨_, h2, h3⟩ := hR (by assumption)
    have hi3 : (txts l).length ≤ i := by omega
    rw [List.drop_eq_nil_of_le hi3] at h2
    have hR0 : R = [] := by rw [← cutS_join R, h2, h3]; rfl
    subst hR0
    rw [text_nil] at s10 ⊢
    (repeat' (first | refine Wl.moveE (by conv => { lhs; whnf }) ?_ | refine Wl.assignE (by conv => { lhs; whnf }) ?_ | refine Wl.nil ?_ | refine Wl.extract rfl rfl ?_ | refine Wl.guardY rfl rfl ?_ | refine Wl.pickTE rfl (by conv => { lhs; whnf }) ?_ | refine Qseq.normal ?_ | refine Wc.seq ?_ | refine Wc.region ?_ | (refine Wl.eql rfl rfl (fun _ => ?_) (fun _ => ?_) <;> (first | (exfalso; contradiction) | skip)) | (refine Wl.neq rfl rfl (fun _ => ?_) (fun _ => ?_) <;> (first | (exfalso; omega) | skip))))
    refine Wl.call (LeftR_spec s10) rfl ?_
    rintro _ _ ⟨rfl, rfl⟩
    (repeat' (first | refine Wl.moveE (by conv => { lhs; whnf }) ?_ | refine Wl.guardY rfl rfl ?_ | refine Wl.pickTE rfl (by conv => { lhs; whnf }) ?_ | refine Wl.pickFE rfl (by conv => { lhs; whnf }) ?_ | (refine Wl.eql rfl rfl (fun _ => ?_) (fun _ => ?_) <;> (first | (exfalso; contradiction) | skip))))
    refine Wl.call (LeftR_spec p10) rfl ?_
    rintro _ _ ⟨rfl, rfl⟩
    (repeat' (first | refine Wl.moveE (by conv => { lhs; whnf }) ?_ | refine Wl.guardY rfl rfl ?_ | refine Wl.lenStr rfl ?_))
    refine Wl.remW rfl rfl (by omega) ?_
    rw [show (l.length : Int).tmod 4 = ((l.length % 4 : Nat) : Int) from rfl, hLPl]
    (repeat' (first | refine Wl.moveE (by conv => { lhs; whnf }) ?_ | refine Wl.guardY rfl rfl ?_ | refine Wl.pickTE rfl (by conv => { lhs; whnf }) ?_ | (refine Wl.eql rfl rfl (fun _ => ?_) (fun _ => ?_) <;> (first | (exfalso; omega) | skip))))
    refine Wl.call (LeftR_spec q10) rfl ?_
    rintro _ _ ⟨rfl, rfl⟩
    (repeat' (first | refine Wl.moveE (by conv => { lhs; whnf }) ?_ | refine Wl.guardY rfl rfl ?_ | refine Wl.lenStr rfl ?_))
    refine Wl.remW rfl rfl (by omega) ?_
    rw [show (l.length : Int).tmod 8 = ((l.length % 8 : Nat) : Int) from rfl, hLQl]
    (repeat' (first | refine Wl.assignE (by conv => { lhs; whnf }) ?_ | refine Wl.nil ?_ | refine Wl.guardY rfl rfl ?_ | refine Wl.pickTE rfl (by conv => { lhs; whnf }) ?_ | refine Qseq.normal ?_ | refine Wc.ret ?_ | (refine Wl.eql rfl rfl (fun _ => ?_) (fun _ => ?_) <;> (first | (exfalso; omega) | skip))))
    exact Qfn.ret1 rfl rfl ⟨_, rfl, rfl, cz⟩
  · (repeat' (first | refine Wl.moveE (by conv => { lhs; whnf }) ?_ | refine Wl.assignE (by conv => { lhs; whnf }) ?_ | refine Wl.nil ?_ | refine Wl.extract rfl rfl ?_ | refine Wl.guardY rfl rfl ?_ | refine Wl.guardN rfl rfl ?_ | refine Wl.guardU rfl ?_ | refine Wl.pickTE rfl (by conv => { lhs; whnf }) ?_ | refine Qseq.normal ?_ | refine Wc.seq ?_ | refine Wc.region ?_ | (refine Wl.eql rfl rfl (fun _ => ?_) (fun _ => ?_) <;> (first | (exfalso; contradiction) | skip)) | (refine Wl.neq rfl rfl (fun _ => ?_) (fun _ => ?_) <;> (first | (exfalso; omega) | skip))))
    refine Wl.call (LeftR_spec p10) rfl ?_
    rintro _ _ ⟨rfl, rfl⟩
    (repeat' (first | refine Wl.moveE (by conv => { lhs; whnf }) ?_ | refine Wl.guardY rfl rfl ?_ | refine Wl.lenStr rfl ?_))
    refine Wl.remW rfl rfl (by omega) ?_
    rw [show (l.length : Int).tmod 4 = ((l.length % 4 : Nat) : Int) from rfl, hLPl]
    (repeat' (first | refine Wl.moveE (by conv => { lhs; whnf }) ?_ | refine Wl.guardY rfl rfl ?_ | refine Wl.pickTE rfl (by conv => { lhs; whnf }) ?_ | (refine Wl.eql rfl rfl (fun _ => ?_) (fun _ => ?_) <;> (first | (exfalso; omega) | skip))))
    refine Wl.call (LeftR_spec q10) rfl ?_
    rintro _ _ ⟨rfl, rfl⟩
    (repeat' (first | refine Wl.moveE (by conv => { lhs; whnf }) ?_ | refine Wl.guardY rfl rfl ?_ | refine Wl.lenStr rfl ?_))
    refine Wl.remW rfl rfl (by omega) ?_
    rw [show (l.length : Int).tmod 8 = ((l.length % 8 : Nat) : Int) from rfl, hLQl]
    (repeat' (first | refine Wl.assignE (by conv => { lhs; whnf }) ?_ | refine Wl.nil ?_ | refine Wl.guardY rfl rfl ?_ | refine Wl.pickTE rfl (by conv => { lhs; whnf }) ?_ | refine Qseq.normal ?_ | refine Wc.ret ?_ | (refine Wl.eql rfl rfl (fun _ => ?_) (fun _ => ?_) <;> (first | (exfalso; omega) | skip))))
    exact Qfn.ret1 rfl rfl ⟨_, rfl, rfl, cz⟩
end Go.Proofs.YthppadlcejpgbaaGreatDoor

namespace Go.Proofs.YthppadlcejpgbaaGreatDoor
open Go Wk
open Go.RowKit (Below)

theorem take_succ_eq {α : Type} {xs ys : List α} {k : Nat} {x y : α} (h : xs.take k = ys.take k) (hx : xs[k]? = some x) (hy : ys[k]? = some y) (e : x = y) : xs.take (k + 1) = ys.take (k + 1) := by
  rw [List.take_add_one, List.take_add_one, hx, hy, h, e]
theorem get_of_lt {α : Type} (xs : List α) {k : Nat} (h : k < xs.length) : ∃ x, xs[k]? = some x := ⟨xs[k], List.getElem?_eq_getElem h⟩

theorem thirties_spec {Pb Pb' : Nat → Prop} {w : World} {v v' : Value} {xs ys : List Int} (h : RdS (one (fun x : Int => Value.int .u32 x)) 1 Pb w v xs) (h' : RdS (one (fun x : Int => Value.int .u32 x)) 1 Pb' w v' ys) :
    Calls Tryz.prog 23 #[v, v'] w (Ret fun r w' => r = .bool (decide (xs = ys)) ∧ New w w') := by
  obtain ⟨a, cap, rfl, hc1, hc2⟩ := h.form
  obtain ⟨a', cap', rfl, hc1', hc2'⟩ := h'.form
  unfold maxLen at hc2 hc2'
  refine calls_of_Wc (n := 26) Tryz.func23 rfl rfl rfl ?_
  (repeat' (first | refine Wl.moveE (by conv => { lhs; whnf }) ?_ | refine Wl.assignE (by conv => { lhs; whnf }) ?_ | refine Wl.nil ?_ | refine Wl.lenS rfl ?_ | refine Qseq.normal ?_ | refine Wc.seq ?_ | refine Wc.region ?_ | refine Wc.block ?_ | refine Wc.skip ?_ | refine Wc.ret ?_ | refine Qseq.ret ?_ | refine Wc.condT rfl ?_ | refine Wc.condF rfl ?_ | refine Wl.neq rfl rfl (fun _ => ?_) (fun _ => ?_)))
  · refine Qfn.ret1 rfl rfl ⟨_, rfl, ?_, Chg.refl _ _⟩
    rw [decide_eq_false (by intro e; subst e; omega)]; rfl
  · have hlen : xs.length = ys.length := by omega
    refine Wc.loop (σ := Nat) (fun k => [(0, .slice a xs.length cap), (1, .slice a' ys.length cap'), (5, vi k)]) (fun k w' => k ≤ xs.length ∧ xs.take k = ys.take k ∧ New w w') (fun k => xs.length - k) 0 ⟨rfl, rfl, rfl, trivial⟩ ⟨Nat.zero_le _, by simp, Chg.refl _ _⟩ ?_
    rintro k G w1 ⟨hk, ht, hw1⟩
    simp only [upds]
    (repeat' (first | refine Wl.moveE (by conv => { lhs; whnf }) ?_ | refine Wl.assignE (by conv => { lhs; whnf }) ?_ | refine Wl.nil ?_ | refine Wl.lenS rfl ?_ | refine Qseq.normal ?_ | refine Wc.seq ?_ | refine Wc.region ?_ | refine Wc.block ?_ | refine Wc.skip ?_ | refine Wc.exit ?_ | refine Wc.ret ?_ | refine Qseq.exit ?_ | refine Qblk.hit ?_ | refine Qloop.exit ?_ | refine Wc.condT rfl ?_ | refine Wc.condF rfl ?_ | refine Wl.lss rfl rfl (fun _ => ?_) (fun _ => ?_)))
    · obtain ⟨x, hx⟩ := get_of_lt xs (k := k) (by omega)
      obtain ⟨y, hy⟩ := get_of_lt ys (k := k) (by omega)
      refine Wc.regionN rfl (by kernel_rfl) ?_
      (repeat' (refine Wq.moveE (by conv => { lhs; whnf }) ?_))
      refine Wq.idxLoadV (fun w2 h2 => h.keep (stable_one _) (New.keep (New.trans hw1 h2))) rfl rfl (by omega) hx rfl rfl ⟨w1, Chg.refl _ _⟩ fun p => ?_
      (repeat' (refine Wq.moveE (by conv => { lhs; whnf }) ?_))
      refine Wq.idxLoadV (fun w2 h2 => h'.keep (stable_one _) (New.keep (New.trans hw1 h2))) rfl rfl (by omega) hy rfl rfl ⟨w1, Chg.refl _ _⟩ fun p => ?_
      (repeat' (first | refine Wq.nil ?_ | refine Wq.neq rfl rfl (fun _ => ?_) (fun _ => ?_)))
      · intro w2 h2
        (repeat' (first | refine Wl.assignE (by conv => { lhs; whnf }) ?_ | refine Wl.nil ?_ | refine Qseq.normal ?_ | refine Wc.seq ?_ | refine Wc.region ?_ | refine Wc.ret ?_ | refine Qseq.ret ?_ | refine Qblk.ret ?_ | refine Qloop.ret ?_ | refine Wc.condT rfl ?_))
        refine Qfn.ret1 rfl rfl ⟨_, rfl, ?_, New.trans hw1 h2⟩
        rw [decide_eq_false (by rintro rfl; rw [hx] at hy; cases hy; contradiction)]; rfl
      · intro w2 h2
        (repeat' (first | refine Wl.moveE (by conv => { lhs; whnf }) ?_ | refine Wl.assignE (by conv => { lhs; whnf }) ?_ | refine Wl.nil ?_ | refine Qseq.normal ?_ | refine Wc.region ?_ | refine Wc.skip ?_ | refine Qblk.normal ?_ | refine Wc.condF rfl ?_ | refine Wl.add rfl rfl (by omega) (by omega) ?_))
        exact Qloop.normal (k + 1) ⟨rfl, rfl, rfl, trivial⟩ ⟨by omega, take_succ_eq ht hx hy (by assumption), New.trans hw1 h2⟩ (by omega)
    · refine Qfn.ret1 rfl rfl ⟨_, rfl, ?_, hw1⟩
      have : k = xs.length := by omega
      rw [this, List.take_length, hlen, List.take_length] at ht
      rw [decide_eq_true ht]; rfl

theorem sixties_spec {Pb Pb' : Nat → Prop} {w : World} {v v' : Value} {xs ys : List Int} (h : RdS (one (fun x : Int => Value.int .u64 x)) 1 Pb w v xs) (h' : RdS (one (fun x : Int => Value.int .u64 x)) 1 Pb' w v' ys) :
    Calls Tryz.prog 24 #[v, v'] w (Ret fun r w' => r = .bool (decide (xs = ys)) ∧ New w w') := by
  obtain ⟨a, cap, rfl, hc1, hc2⟩ := h.form
  obtain ⟨a', cap', rfl, hc1', hc2'⟩ := h'.form
  unfold maxLen at hc2 hc2'
  refine calls_of_Wc (n := 26) Tryz.func24 rfl rfl rfl ?_
  (repeat' (first | refine Wl.moveE (by conv => { lhs; whnf }) ?_ | refine Wl.assignE (by conv => { lhs; whnf }) ?_ | refine Wl.nil ?_ | refine Wl.lenS rfl ?_ | refine Qseq.normal ?_ | refine Wc.seq ?_ | refine Wc.region ?_ | refine Wc.block ?_ | refine Wc.skip ?_ | refine Wc.ret ?_ | refine Qseq.ret ?_ | refine Wc.condT rfl ?_ | refine Wc.condF rfl ?_ | refine Wl.neq rfl rfl (fun _ => ?_) (fun _ => ?_)))
  · refine Qfn.ret1 rfl rfl ⟨_, rfl, ?_, Chg.refl _ _⟩
    rw [decide_eq_false (by intro e; subst e; omega)]; rfl
  · have hlen : xs.length = ys.length := by omega
    refine Wc.loop (σ := Nat) (fun k => [(0, .slice a xs.length cap), (1, .slice a' ys.length cap'), (5, vi k)]) (fun k w' => k ≤ xs.length ∧ xs.take k = ys.take k ∧ New w w') (fun k => xs.length - k) 0 ⟨rfl, rfl, rfl, trivial⟩ ⟨Nat.zero_le _, by simp, Chg.refl _ _⟩ ?_
    rintro k G w1 ⟨hk, ht, hw1⟩
    simp only [upds]
    (repeat' (first | refine Wl.moveE (by conv => { lhs; whnf }) ?_ | refine Wl.assignE (by conv => { lhs; whnf }) ?_ | refine Wl.nil ?_ | refine Wl.lenS rfl ?_ | refine Qseq.normal ?_ | refine Wc.seq ?_ | refine Wc.region ?_ | refine Wc.block ?_ | refine Wc.skip ?_ | refine Wc.exit ?_ | refine Wc.ret ?_ | refine Qseq.exit ?_ | refine Qblk.hit ?_ | refine Qloop.exit ?_ | refine Wc.condT rfl ?_ | refine Wc.condF rfl ?_ | refine Wl.lss rfl rfl (fun _ => ?_) (fun _ => ?_)))
    · obtain ⟨x, hx⟩ := get_of_lt xs (k := k) (by omega)
      obtain ⟨y, hy⟩ := get_of_lt ys (k := k) (by omega)
      refine Wc.regionN rfl (by kernel_rfl) ?_
      (repeat' (refine Wq.moveE (by conv => { lhs; whnf }) ?_))
      refine Wq.idxLoadV (fun w2 h2 => h.keep (stable_one _) (New.keep (New.trans hw1 h2))) rfl rfl (by omega) hx rfl rfl ⟨w1, Chg.refl _ _⟩ fun p => ?_
      (repeat' (refine Wq.moveE (by conv => { lhs; whnf }) ?_))
      refine Wq.idxLoadV (fun w2 h2 => h'.keep (stable_one _) (New.keep (New.trans hw1 h2))) rfl rfl (by omega) hy rfl rfl ⟨w1, Chg.refl _ _⟩ fun p => ?_
      (repeat' (first | refine Wq.nil ?_ | refine Wq.neq rfl rfl (fun _ => ?_) (fun _ => ?_)))
      · intro w2 h2
        (repeat' (first | refine Wl.assignE (by conv => { lhs; whnf }) ?_ | refine Wl.nil ?_ | refine Qseq.normal ?_ | refine Wc.seq ?_ | refine Wc.region ?_ | refine Wc.ret ?_ | refine Qseq.ret ?_ | refine Qblk.ret ?_ | refine Qloop.ret ?_ | refine Wc.condT rfl ?_))
        refine Qfn.ret1 rfl rfl ⟨_, rfl, ?_, New.trans hw1 h2⟩
        rw [decide_eq_false (by rintro rfl; rw [hx] at hy; cases hy; contradiction)]; rfl
      · intro w2 h2
        (repeat' (first | refine Wl.moveE (by conv => { lhs; whnf }) ?_ | refine Wl.assignE (by conv => { lhs; whnf }) ?_ | refine Wl.nil ?_ | refine Qseq.normal ?_ | refine Wc.region ?_ | refine Wc.skip ?_ | refine Qblk.normal ?_ | refine Wc.condF rfl ?_ | refine Wl.add rfl rfl (by omega) (by omega) ?_))
        exact Qloop.normal (k + 1) ⟨rfl, rfl, rfl, trivial⟩ ⟨by omega, take_succ_eq ht hx hy (by assumption), New.trans hw1 h2⟩ (by omega)
    · refine Qfn.ret1 rfl rfl ⟨_, rfl, ?_, hw1⟩
      have : k = xs.length := by omega
      rw [this, List.take_length, hlen, List.take_length] at ht
      rw [decide_eq_true ht]; rfl

theorem texts_spec {Pb Pb' : Nat → Prop} {w : World} {v v' : Value} {xs ys : List (List UInt8)} (h : RdS (one vs) 1 Pb w v xs) (h' : RdS (one vs) 1 Pb' w v' ys) :
    Calls Tryz.prog 26 #[v, v'] w (Ret fun r w' => r = .bool (decide (xs = ys)) ∧ New w w') := by
  obtain ⟨a, cap, rfl, hc1, hc2⟩ := h.form
  obtain ⟨a', cap', rfl, hc1', hc2'⟩ := h'.form
  unfold maxLen at hc2 hc2'
  refine calls_of_Wc (n := 26) Tryz.func26 rfl rfl rfl ?_
  (repeat' (first | refine Wl.moveE (by conv => { lhs; whnf }) ?_ | refine Wl.assignE (by conv => { lhs; whnf }) ?_ | refine Wl.nil ?_ | refine Wl.lenS rfl ?_ | refine Qseq.normal ?_ | refine Wc.seq ?_ | refine Wc.region ?_ | refine Wc.block ?_ | refine Wc.skip ?_ | refine Wc.ret ?_ | refine Qseq.ret ?_ | refine Wc.condT rfl ?_ | refine Wc.condF rfl ?_ | refine Wl.neq rfl rfl (fun _ => ?_) (fun _ => ?_)))
  · refine Qfn.ret1 rfl rfl ⟨_, rfl, ?_, Chg.refl _ _⟩
    rw [decide_eq_false (by intro e; subst e; omega)]; rfl
  · have hlen : xs.length = ys.length := by omega
    refine Wc.loop (σ := Nat) (fun k => [(0, .slice a xs.length cap), (1, .slice a' ys.length cap'), (5, vi k)]) (fun k w' => k ≤ xs.length ∧ xs.take k = ys.take k ∧ New w w') (fun k => xs.length - k) 0 ⟨rfl, rfl, rfl, trivial⟩ ⟨Nat.zero_le _, by simp, Chg.refl _ _⟩ ?_
    rintro k G w1 ⟨hk, ht, hw1⟩
    simp only [upds]
    (repeat' (first | refine Wl.moveE (by conv => { lhs; whnf }) ?_ | refine Wl.assignE (by conv => { lhs; whnf }) ?_ | refine Wl.nil ?_ | refine Wl.lenS rfl ?_ | refine Qseq.normal ?_ | refine Wc.seq ?_ | refine Wc.region ?_ | refine Wc.block ?_ | refine Wc.skip ?_ | refine Wc.exit ?_ | refine Wc.ret ?_ | refine Qseq.exit ?_ | refine Qblk.hit ?_ | refine Qloop.exit ?_ | refine Wc.condT rfl ?_ | refine Wc.condF rfl ?_ | refine Wl.lss rfl rfl (fun _ => ?_) (fun _ => ?_)))
    · obtain ⟨x, hx⟩ := get_of_lt xs (k := k) (by omega)
      obtain ⟨y, hy⟩ := get_of_lt ys (k := k) (by omega)
      refine Wc.regionN rfl (by kernel_rfl) ?_
      (repeat' (refine Wq.moveE (by conv => { lhs; whnf }) ?_))
      refine Wq.idxLoadV (fun w2 h2 => h.keep (stable_one _) (New.keep (New.trans hw1 h2))) rfl rfl (by omega) hx rfl rfl ⟨w1, Chg.refl _ _⟩ fun p => ?_
      (repeat' (refine Wq.moveE (by conv => { lhs; whnf }) ?_))
      refine Wq.idxLoadV (fun w2 h2 => h'.keep (stable_one _) (New.keep (New.trans hw1 h2))) rfl rfl (by omega) hy rfl rfl ⟨w1, Chg.refl _ _⟩ fun p => ?_
      (repeat' (first | refine Wq.nil ?_ | refine Wq.sneq rfl rfl (fun _ => ?_) (fun _ => ?_)))
      · intro w2 h2
        (repeat' (first | refine Wl.assignE (by conv => { lhs; whnf }) ?_ | refine Wl.nil ?_ | refine Qseq.normal ?_ | refine Wc.seq ?_ | refine Wc.region ?_ | refine Wc.ret ?_ | refine Qseq.ret ?_ | refine Qblk.ret ?_ | refine Qloop.ret ?_ | refine Wc.condT rfl ?_))
        refine Qfn.ret1 rfl rfl ⟨_, rfl, ?_, New.trans hw1 h2⟩
        rw [decide_eq_false (by rintro rfl; rw [hx] at hy; cases hy; contradiction)]; rfl
      · intro w2 h2
        (repeat' (first | refine Wl.moveE (by conv => { lhs; whnf }) ?_ | refine Wl.assignE (by conv => { lhs; whnf }) ?_ | refine Wl.nil ?_ | refine Qseq.normal ?_ | refine Wc.region ?_ | refine Wc.skip ?_ | refine Qblk.normal ?_ | refine Wc.condF rfl ?_ | refine Wl.add rfl rfl (by omega) (by omega) ?_))
        exact Qloop.normal (k + 1) ⟨rfl, rfl, rfl, trivial⟩ ⟨by omega, take_succ_eq ht hx hy (by assumption), New.trans hw1 h2⟩ (by omega)
    · refine Qfn.ret1 rfl rfl ⟨_, rfl, ?_, hw1⟩
      have : k = xs.length := by omega
      rw [this, List.take_length, hlen, List.take_length] at ht
      rw [decide_eq_true ht]; rfl
end Go.Proofs.YthppadlcejpgbaaGreatDoor

namespace Go.Proofs.YthppadlcejpgbaaGreatDoor
open Go Wk
open Go.RowKit (Below)
attribute [local irreducible] Go.Calls

section
variable {P : Program} {n : Nat} {ds : List Deferred} {Q : Po} {F : Fr} {w : World} {ops rest : List Oper} {d : Nat} {ty t t' : TypeId} {pos : String} {aft : Array Edge}
theorem Wk.Wl.bneq {x y : Operand} {a b : Bool} [ht : Und P t .bool] (hx : ev n F x = .bool a) (hy : ev n F y = .bool b) (c : Wl P n ds Q ops rest (upd F d (.bool !(a == b))) w) : Wl P n ds Q ops (⟨some d, .binOp .neq t x y t', ty, pos, aft, none⟩ :: rest) F w := by
  refine Wl.val ?_ c
  have h : (Op.equalIn 10000 t (.bool a) (.bool b)).run P w = .ok (a == b) w := run_equalIn_bool' (P := P) w 9999 t a b ht.h
  have hb : (binOp .neq t (.bool a) (.bool b)).run P w = .ok (.bool !(a == b)) w := by
    simp only [binOp]
    simp [Op.equal, Op.maxDepth, h]
  simp only [execOp, hx, hy, Sem.run_bind, run_eqGuard_bool, Result.andThen_ok, hb, Sem.run_pure]
end
theorem flat_be_len {k : Nat} (xs : List Int) : (xs.flatMap (be k)).length = k * xs.length := flatK_len (be_length k) xs
theorem pieces8_lt {v : List UInt8} : ∀ x ∈ pieces 8 v, 0 ≤ x ∧ x < 2 ^ 64 := by
  intro x hx
  unfold pieces at hx
  obtain ⟨i, _, rfl⟩ := List.mem_map.1 hx
  have h1 := number_lt ((v.drop (8 * i)).take 8)
  have h2 : 256 ^ ((v.drop (8 * i)).take 8).length ≤ 256 ^ 8 := pow_le _ _ (by simp; omega)
  have h3 : (256 : Nat) ^ 8 = 18446744073709551616 := by decide
  omega
theorem txts_flat {v : List UInt8} (h : tform v = 0) : (txts v).flatMap (· ++ [0]) = v := by
  have hof := of_txts h
  unfold ofTexts at hof
  split at hof
  · simp at hof
  · rw [Prod.mk.injEq] at hof; exact hof.1
set_option maxHeartbeats 8000000 in
theorem back_law {w : World} {l : List UInt8} (hD : DeB w) (hE : ErrV w) (hl : l.length ≤ 1048576)
    {P1 P2 P3 : Nat → Prop} {v1 v2 v3 : Value} {xa xb : List Int} {xl : List (List UInt8)} (r1 : RdS (one u32v) 1 P1 w v1 xa) (b1 : ∀ x ∈ xa, 0 ≤ x ∧ x < 2 ^ 32) (h1 : xa.length ≤ 1048576)
    (r2 : RdS (one u64v) 1 P2 w v2 xb) (b2 : ∀ x ∈ xb, 0 ≤ x ∧ x < 2 ^ 64) (h2 : xb.length ≤ 1048576) (r3 : RdS (one vs) 1 P3 w v3 xl) (h3 : (xl.flatMap (· ++ [0])).length ≤ 1048576) :
    Calls Tryz.prog 7 #[vs l, v1, v2, v3] w (Ret fun r w' => r = .bool true ∧ New w w') := by
  have hll : l.length ≤ 100000000 := by omega
  have l1 := flat_be_len (k := 4) xa
  have l2 := flat_be_len (k := 8) xb
  obtain ⟨fa, na⟩ := nums_be (k := 4) (by omega) (xs := xa) b1
  obtain ⟨fb, nb⟩ := nums_be (k := 8) (by omega) (xs := xb) b2
  refine calls_of_Wc Tryz.func7 rfl Tryz.ntmps7 rfl ?_
  (repeat' (first | refine Wl.assignE (by conv => { lhs; whnf }) ?_ | refine Wl.nil ?_ | refine Qseq.normal ?_ | refine Wc.seq ?_ | refine Wc.region ?_))
  refine Wl.call (awake_spec hD hE) rfl ?_
  rintro _ w1 ⟨rfl, n1⟩
  (repeat' (first | refine Wl.moveE (by conv => { lhs; whnf }) ?_ | refine Wl.nil ?_ | refine Wl.notB rfl ?_ | refine Qseq.normal ?_ | refine Wc.seq ?_ | refine Wc.region ?_ | refine Wc.skip ?_ | refine Wc.condF rfl ?_))
  refine Wl.call (cOfU32s_spec (r1.keep (stable_one _) n1.keep) b1 (by omega)) rfl ?_
  rintro _ w2 ⟨rfl, n2⟩
  refine Wl.call (cU32s_spec (l := xa.flatMap (be 4)) (by omega)) rfl ?_
  rintro _ w3 ⟨u1, rfl, o1, n3⟩
  rw [na] at o1
  rw [fa]
  have n13 := New.trans n1 (New.trans n2 n3)
  (repeat' (first | refine Wl.moveE (by conv => { lhs; whnf }) ?_ | refine Wl.assignE (by conv => { lhs; whnf }) ?_ | refine Wl.nil ?_ | refine Wl.extract rfl rfl ?_ | refine Qseq.normal ?_ | refine Wc.seq ?_ | refine Wc.region ?_))
  refine Wl.call (cOfU64s_spec (r2.keep (stable_one _) n13.keep) b2 (by omega)) rfl ?_
  rintro _ w4 ⟨rfl, n4⟩
  refine Wl.call (cU64s_spec (l := xb.flatMap (be 8)) (by omega)) rfl ?_
  rintro _ w5 ⟨u2, rfl, o2, n5⟩
  rw [nb] at o2
  rw [fb]
  have n35 := New.trans n4 n5
  have n15 := New.trans n13 n35
  (repeat' (first | refine Wl.moveE (by conv => { lhs; whnf }) ?_ | refine Wl.assignE (by conv => { lhs; whnf }) ?_ | refine Wl.nil ?_ | refine Wl.extract rfl rfl ?_ | refine Wl.guardY rfl rfl ?_ | refine Wl.pickFE rfl (by conv => { lhs; whnf }) ?_ | refine Qseq.normal ?_ | refine Wc.seq ?_ | refine Wc.region ?_ | (refine Wl.neq rfl rfl (fun _ => ?_) (fun _ => ?_) <;> (first | (exfalso; omega) | skip))))
  refine Wl.call (thirties_spec ((o1.rd good32.mo).keep (stable_one _) n35.keep) (r1.keep (stable_one _) n15.keep)) rfl ?_
  rintro _ w6 ⟨rfl, n6⟩
  rw [decide_eq_true rfl]
  (repeat' (first | refine Wl.moveE (by conv => { lhs; whnf }) ?_ | refine Wl.guardY rfl rfl ?_ | refine Wl.pickFE rfl (by conv => { lhs; whnf }) ?_ | refine Wl.notB rfl ?_))
  refine Wl.call (sixties_spec ((o2.rd good64.mo).keep (stable_one _) n6.keep) (r2.keep (stable_one _) (New.trans n15 n6).keep)) rfl ?_
  rintro _ w7 ⟨rfl, n7⟩
  rw [decide_eq_true rfl]
  have n17 := New.trans n15 (New.trans n6 n7)
  clear o1 o2 n1 n2 n3 n13 n4 n5 n35 n15 n6 n7
  (repeat' (first | refine Wl.moveE (by conv => { lhs; whnf }) ?_ | refine Wl.nil ?_ | refine Wl.guardY rfl rfl ?_ | refine Wl.pickFE rfl (by conv => { lhs; whnf }) ?_ | refine Wl.notB rfl ?_ | refine Qseq.normal ?_ | refine Wc.seq ?_ | refine Wc.region ?_ | refine Wc.skip ?_ | refine Wc.condF rfl ?_))
  refine Wl.call (cOfTexts_spec (r3.keep (stable_one _) n17.keep) (by omega)) rfl ?_
  rintro _ w8 ⟨rfl, n8⟩
  have n18 := New.trans n17 n8
  by_cases hof : (ofTexts xl).2 = 0
  · obtain ⟨t1, t2⟩ := txts_of hof
    have hle : (ofTexts xl).1.length ≤ 1048576 := by
      unfold ofTexts
      split
      · simp
      · exact h3
    rw [hof]
    (repeat' (first | refine Wl.moveE (by conv => { lhs; whnf }) ?_ | refine Wl.assignE (by conv => { lhs; whnf }) ?_ | refine Wl.nil ?_ | refine Wl.extract rfl rfl ?_ | refine Qseq.normal ?_ | refine Wc.seq ?_ | refine Wc.region ?_ | refine Wc.condT rfl ?_ | (refine Wl.eql rfl rfl (fun _ => ?_) (fun _ => ?_) <;> (first | (exfalso; omega) | skip))))
    refine Wl.call (cTexts_spec (l := (ofTexts xl).1) (by omega)) rfl ?_
    rintro _ w9 ⟨u3, rfl, o3, n9⟩
    rw [t2] at o3
    rw [t1]
    (repeat' (first | refine Wl.moveE (by conv => { lhs; whnf }) ?_ | refine Wl.assignE (by conv => { lhs; whnf }) ?_ | refine Wl.nil ?_ | refine Wl.extract rfl rfl ?_ | refine Wl.guardY rfl rfl ?_ | refine Qseq.normal ?_ | refine Wc.seq ?_ | refine Wc.region ?_ | (refine Wl.neq rfl rfl (fun _ => ?_) (fun _ => ?_) <;> (first | (exfalso; omega) | skip))))
    refine Wl.call (texts_spec (o3.rd goodStr.mo) (r3.keep (stable_one _) (New.trans n18 n9).keep)) rfl ?_
    rintro _ w10 ⟨rfl, n10⟩
    rw [decide_eq_true rfl]
    have n := New.trans n18 (New.trans n9 n10)
    clear n9 n10 o3 n18 n8 n17 t1 t2 hle hof
    (repeat' (first | refine Wl.moveE (by conv => { lhs; whnf }) ?_ | refine Wl.nil ?_ | refine Wl.guardY rfl rfl ?_ | refine Wl.pickFE rfl (by conv => { lhs; whnf }) ?_ | refine Wl.notB rfl ?_ | refine Qseq.normal ?_ | refine Wc.seq ?_ | refine Wc.region ?_ | refine Wc.skip ?_ | refine Wc.condF rfl ?_))
    rcases Nat.eq_zero_or_pos (l.length % 4) with h4 | h4 <;> rcases Nat.eq_zero_or_pos (l.length % 8) with h8 | h8
    · have f4 := form_ok (k := 4) h4
      have f8 := form_ok (k := 8) h8
      refine Wl.call (cU32s_spec hll) rfl ?_
      rintro _ wa ⟨ca, rfl, oa, na1⟩
      rw [f4.1]
      rw [f4.2] at oa
      (repeat' (first | refine Wl.moveE (by conv => { lhs; whnf }) ?_ | refine Wl.assignE (by conv => { lhs; whnf }) ?_ | refine Wl.nil ?_ | refine Wl.extract rfl rfl ?_ | refine Qseq.normal ?_ | refine Wc.seq ?_ | refine Wc.region ?_))
      refine Wl.call (cU64s_spec hll) rfl ?_
      rintro _ wb ⟨cb, rfl, ob, nb1⟩
      rw [f8.1]
      rw [f8.2] at ob
      (repeat' (first | refine Wl.moveE (by conv => { lhs; whnf }) ?_ | refine Wl.assignE (by conv => { lhs; whnf }) ?_ | refine Wl.nil ?_ | refine Wl.extract rfl rfl ?_ | refine Qseq.normal ?_ | refine Wc.seq ?_ | refine Wc.region ?_))
      refine Wl.call (cTexts_spec hll) rfl ?_
      rintro _ wc ⟨cc, rfl, oc, nc1⟩
      have nz := New.trans n (New.trans na1 (New.trans nb1 nc1))
      have qa := (oa.rd good32.mo).keep (stable_one _) (New.trans nb1 nc1).keep
      have qb := (ob.rd good64.mo).keep (stable_one _) nc1.keep
      have qc := oc.rd goodStr.mo
      (repeat' (first | refine Wl.moveE (by conv => { lhs; whnf }) ?_ | refine Wl.assignE (by conv => { lhs; whnf }) ?_ | refine Wl.nil ?_ | refine Wl.extract rfl rfl ?_ | refine Wl.lenStr rfl ?_ | refine Qseq.normal ?_ | refine Wc.seq ?_ | refine Wc.region ?_ | (refine Wl.eql rfl rfl (fun _ => ?_) (fun _ => ?_) <;> (first | (exfalso; omega) | skip))))
      refine Wl.remW rfl rfl (by omega) ?_
      rw [show (l.length : Int).tmod 4 = ((l.length % 4 : Nat) : Int) from rfl]
      (repeat' (refine Wl.eql rfl rfl (fun _ => ?_) (fun _ => ?_) <;> (first | (exfalso; omega) | skip)))
      refine Wl.bneq rfl rfl ?_
      (repeat' (first | refine Wl.moveE (by conv => { lhs; whnf }) ?_ | refine Wl.guardY rfl rfl ?_ | refine Wl.lenStr rfl ?_ | (refine Wl.eql rfl rfl (fun _ => ?_) (fun _ => ?_) <;> (first | (exfalso; omega) | skip))))
      refine Wl.remW rfl rfl (by omega) ?_
      rw [show (l.length : Int).tmod 8 = ((l.length % 8 : Nat) : Int) from rfl]
      (repeat' (first | refine Wl.guardY rfl rfl ?_ | (refine Wl.eql rfl rfl (fun _ => ?_) (fun _ => ?_) <;> (first | (exfalso; omega) | skip))))
      refine Wl.bneq rfl rfl ?_
      (repeat' (first | refine Wl.moveE (by conv => { lhs; whnf }) ?_ | refine Wl.guardY rfl rfl ?_ | refine Wl.pickFE rfl (by conv => { lhs; whnf }) ?_ | (refine Wl.eql rfl rfl (fun _ => ?_) (fun _ => ?_) <;> (first | (exfalso; omega) | skip))))
      refine Wl.call (cOfU32s_spec qa (fun x hx => pieces4_lt x hx) (by rw [pieces_length]; omega)) rfl ?_
      rintro _ wd ⟨rfl, nd1⟩
      rw [be_pieces (by omega) h4]
      replace nz := New.trans nz nd1
      replace qb := qb.keep (stable_one _) nd1.keep
      replace qc := qc.keep (stable_one _) nd1.keep
      (repeat' (first | refine Wl.moveE (by conv => { lhs; whnf }) ?_ | refine Wl.guardY rfl rfl ?_ | refine Wl.pickTE rfl (by conv => { lhs; whnf }) ?_ | refine Wl.pickFE rfl (by conv => { lhs; whnf }) ?_ | (refine Wl.eql rfl rfl (fun _ => ?_) (fun _ => ?_) <;> (first | (exfalso; omega) | skip)) | (refine Wl.sneq rfl rfl (fun _ => ?_) (fun _ => ?_) <;> (first | (exfalso; contradiction) | skip))))
      refine Wl.call (cOfU64s_spec qb (fun x hx => pieces8_lt x hx) (by rw [pieces_length]; omega)) rfl ?_
      rintro _ we ⟨rfl, ne1⟩
      rw [be_pieces (by omega) h8]
      replace nz := New.trans nz ne1
      replace qc := qc.keep (stable_one _) ne1.keep
      (repeat' (first | refine Wl.moveE (by conv => { lhs; whnf }) ?_ | refine Wl.assignE (by conv => { lhs; whnf }) ?_ | refine Wl.nil ?_ | refine Wl.guardY rfl rfl ?_ | refine Wl.pickTE rfl (by conv => { lhs; whnf }) ?_ | refine Wl.pickFE rfl (by conv => { lhs; whnf }) ?_ | refine Qseq.normal ?_ | refine Wc.seq ?_ | refine Wc.region ?_ | refine Wc.skip ?_ | refine Wc.ret ?_ | refine Qseq.ret ?_ | refine Wc.condT rfl ?_ | refine Wc.condF rfl ?_ | refine Wl.neq rfl rfl (fun _ => ?_) (fun _ => ?_) | (refine Wl.sneq rfl rfl (fun _ => ?_) (fun _ => ?_) <;> (first | (exfalso; contradiction) | skip))))
      · exact Qfn.ret1 rfl rfl ⟨_, rfl, rfl, nz⟩
      · have h0 : tform l = 0 := by omega
        have hbk := of_txts h0
        refine Wl.call (cOfTexts_spec qc (by rw [txts_flat h0]; omega)) rfl ?_
        rintro _ wf ⟨rfl, nf1⟩
        rw [hbk]
        (repeat' (first | refine Wl.moveE (by conv => { lhs; whnf }) ?_ | refine Wl.assignE (by conv => { lhs; whnf }) ?_ | refine Wl.nil ?_ | refine Wl.extract rfl rfl ?_ | refine Wl.guardY rfl rfl ?_ | refine Wl.pickTE rfl (by conv => { lhs; whnf }) ?_ | refine Qseq.normal ?_ | refine Wc.seq ?_ | refine Wc.region ?_ | refine Wc.ret ?_ | (refine Wl.eql rfl rfl (fun _ => ?_) (fun _ => ?_) <;> (first | (exfalso; omega) | skip)) | (refine Wl.seql rfl rfl (fun _ => ?_) (fun _ => ?_) <;> (first | (exfalso; contradiction) | skip))))
        exact Qfn.ret1 rfl rfl ⟨_, rfl, rfl, New.trans nz nf1⟩
    · have f4 := form_ok (k := 4) h4
      have f8 := form_bad (k := 8) (l := l) (by omega)
      refine Wl.call (cU32s_spec hll) rfl ?_
      rintro _ wa ⟨ca, rfl, oa, na1⟩
      rw [f4.1]
      rw [f4.2] at oa
      (repeat' (first | refine Wl.moveE (by conv => { lhs; whnf }) ?_ | refine Wl.assignE (by conv => { lhs; whnf }) ?_ | refine Wl.nil ?_ | refine Wl.extract rfl rfl ?_ | refine Qseq.normal ?_ | refine Wc.seq ?_ | refine Wc.region ?_))
      refine Wl.call (cU64s_spec hll) rfl ?_
      rintro _ wb ⟨cb, rfl, ob, nb1⟩
      rw [f8.1]
      rw [f8.2] at ob
      (repeat' (first | refine Wl.moveE (by conv => { lhs; whnf }) ?_ | refine Wl.assignE (by conv => { lhs; whnf }) ?_ | refine Wl.nil ?_ | refine Wl.extract rfl rfl ?_ | refine Qseq.normal ?_ | refine Wc.seq ?_ | refine Wc.region ?_))
      refine Wl.call (cTexts_spec hll) rfl ?_
      rintro _ wc ⟨cc, rfl, oc, nc1⟩
      have nz := New.trans n (New.trans na1 (New.trans nb1 nc1))
      have qa := (oa.rd good32.mo).keep (stable_one _) (New.trans nb1 nc1).keep
      have qb := (ob.rd good64.mo).keep (stable_one _) nc1.keep
      have qc := oc.rd goodStr.mo
      (repeat' (first | refine Wl.moveE (by conv => { lhs; whnf }) ?_ | refine Wl.assignE (by conv => { lhs; whnf }) ?_ | refine Wl.nil ?_ | refine Wl.extract rfl rfl ?_ | refine Wl.lenStr rfl ?_ | refine Qseq.normal ?_ | refine Wc.seq ?_ | refine Wc.region ?_ | (refine Wl.eql rfl rfl (fun _ => ?_) (fun _ => ?_) <;> (first | (exfalso; omega) | skip))))
      refine Wl.remW rfl rfl (by omega) ?_
      rw [show (l.length : Int).tmod 4 = ((l.length % 4 : Nat) : Int) from rfl]
      (repeat' (refine Wl.eql rfl rfl (fun _ => ?_) (fun _ => ?_) <;> (first | (exfalso; omega) | skip)))
      refine Wl.bneq rfl rfl ?_
      (repeat' (first | refine Wl.moveE (by conv => { lhs; whnf }) ?_ | refine Wl.guardY rfl rfl ?_ | refine Wl.lenStr rfl ?_ | (refine Wl.eql rfl rfl (fun _ => ?_) (fun _ => ?_) <;> (first | (exfalso; omega) | skip))))
      refine Wl.remW rfl rfl (by omega) ?_
      rw [show (l.length : Int).tmod 8 = ((l.length % 8 : Nat) : Int) from rfl]
      (repeat' (first | refine Wl.guardY rfl rfl ?_ | (refine Wl.eql rfl rfl (fun _ => ?_) (fun _ => ?_) <;> (first | (exfalso; omega) | skip))))
      refine Wl.bneq rfl rfl ?_
      (repeat' (first | refine Wl.moveE (by conv => { lhs; whnf }) ?_ | refine Wl.guardY rfl rfl ?_ | refine Wl.pickFE rfl (by conv => { lhs; whnf }) ?_ | (refine Wl.eql rfl rfl (fun _ => ?_) (fun _ => ?_) <;> (first | (exfalso; omega) | skip))))
      refine Wl.call (cOfU32s_spec qa (fun x hx => pieces4_lt x hx) (by rw [pieces_length]; omega)) rfl ?_
      rintro _ wd ⟨rfl, nd1⟩
      rw [be_pieces (by omega) h4]
      replace nz := New.trans nz nd1
      replace qb := qb.keep (stable_one _) nd1.keep
      replace qc := qc.keep (stable_one _) nd1.keep
      (repeat' (first | refine Wl.moveE (by conv => { lhs; whnf }) ?_ | refine Wl.assignE (by conv => { lhs; whnf }) ?_ | refine Wl.nil ?_ | refine Wl.guardY rfl rfl ?_ | refine Wl.guardN rfl rfl ?_ | refine Wl.pickTE rfl (by conv => { lhs; whnf }) ?_ | refine Wl.pickFE rfl (by conv => { lhs; whnf }) ?_ | refine Qseq.normal ?_ | refine Wc.seq ?_ | refine Wc.region ?_ | refine Wc.skip ?_ | refine Wc.ret ?_ | refine Qseq.ret ?_ | refine Wc.condT rfl ?_ | refine Wc.condF rfl ?_ | (refine Wl.eql rfl rfl (fun _ => ?_) (fun _ => ?_) <;> (first | (exfalso; omega) | skip)) | refine Wl.neq rfl rfl (fun _ => ?_) (fun _ => ?_) | (refine Wl.sneq rfl rfl (fun _ => ?_) (fun _ => ?_) <;> (first | (exfalso; contradiction) | skip))))
      · exact Qfn.ret1 rfl rfl ⟨_, rfl, rfl, nz⟩
      · have h0 : tform l = 0 := by omega
        have hbk := of_txts h0
        refine Wl.call (cOfTexts_spec qc (by rw [txts_flat h0]; omega)) rfl ?_
        rintro _ wf ⟨rfl, nf1⟩
        rw [hbk]
        (repeat' (first | refine Wl.moveE (by conv => { lhs; whnf }) ?_ | refine Wl.assignE (by conv => { lhs; whnf }) ?_ | refine Wl.nil ?_ | refine Wl.extract rfl rfl ?_ | refine Wl.guardY rfl rfl ?_ | refine Wl.pickTE rfl (by conv => { lhs; whnf }) ?_ | refine Qseq.normal ?_ | refine Wc.seq ?_ | refine Wc.region ?_ | refine Wc.ret ?_ | (refine Wl.eql rfl rfl (fun _ => ?_) (fun _ => ?_) <;> (first | (exfalso; omega) | skip)) | (refine Wl.seql rfl rfl (fun _ => ?_) (fun _ => ?_) <;> (first | (exfalso; contradiction) | skip))))
        exact Qfn.ret1 rfl rfl ⟨_, rfl, rfl, New.trans nz nf1⟩
    · exfalso; omega
    · have f4 := form_bad (k := 4) (l := l) (by omega)
      have f8 := form_bad (k := 8) (l := l) (by omega)
      refine Wl.call (cU32s_spec hll) rfl ?_
      rintro _ wa ⟨ca, rfl, oa, na1⟩
      rw [f4.1]
      rw [f4.2] at oa
      (repeat' (first | refine Wl.moveE (by conv => { lhs; whnf }) ?_ | refine Wl.assignE (by conv => { lhs; whnf }) ?_ | refine Wl.nil ?_ | refine Wl.extract rfl rfl ?_ | refine Qseq.normal ?_ | refine Wc.seq ?_ | refine Wc.region ?_))
      refine Wl.call (cU64s_spec hll) rfl ?_
      rintro _ wb ⟨cb, rfl, ob, nb1⟩
      rw [f8.1]
      rw [f8.2] at ob
      (repeat' (first | refine Wl.moveE (by conv => { lhs; whnf }) ?_ | refine Wl.assignE (by conv => { lhs; whnf }) ?_ | refine Wl.nil ?_ | refine Wl.extract rfl rfl ?_ | refine Qseq.normal ?_ | refine Wc.seq ?_ | refine Wc.region ?_))
      refine Wl.call (cTexts_spec hll) rfl ?_
      rintro _ wc ⟨cc, rfl, oc, nc1⟩
      have nz := New.trans n (New.trans na1 (New.trans nb1 nc1))
      have qa := (oa.rd good32.mo).keep (stable_one _) (New.trans nb1 nc1).keep
      have qb := (ob.rd good64.mo).keep (stable_one _) nc1.keep
      have qc := oc.rd goodStr.mo
      (repeat' (first | refine Wl.moveE (by conv => { lhs; whnf }) ?_ | refine Wl.assignE (by conv => { lhs; whnf }) ?_ | refine Wl.nil ?_ | refine Wl.extract rfl rfl ?_ | refine Wl.lenStr rfl ?_ | refine Qseq.normal ?_ | refine Wc.seq ?_ | refine Wc.region ?_ | (refine Wl.eql rfl rfl (fun _ => ?_) (fun _ => ?_) <;> (first | (exfalso; omega) | skip))))
      refine Wl.remW rfl rfl (by omega) ?_
      rw [show (l.length : Int).tmod 4 = ((l.length % 4 : Nat) : Int) from rfl]
      (repeat' (refine Wl.eql rfl rfl (fun _ => ?_) (fun _ => ?_) <;> (first | (exfalso; omega) | skip)))
      refine Wl.bneq rfl rfl ?_
      (repeat' (first | refine Wl.moveE (by conv => { lhs; whnf }) ?_ | refine Wl.guardY rfl rfl ?_ | refine Wl.lenStr rfl ?_ | (refine Wl.eql rfl rfl (fun _ => ?_) (fun _ => ?_) <;> (first | (exfalso; omega) | skip))))
      refine Wl.remW rfl rfl (by omega) ?_
      rw [show (l.length : Int).tmod 8 = ((l.length % 8 : Nat) : Int) from rfl]
      (repeat' (first | refine Wl.guardY rfl rfl ?_ | (refine Wl.eql rfl rfl (fun _ => ?_) (fun _ => ?_) <;> (first | (exfalso; omega) | skip))))
      refine Wl.bneq rfl rfl ?_
      (repeat' (first | refine Wl.moveE (by conv => { lhs; whnf }) ?_ | refine Wl.assignE (by conv => { lhs; whnf }) ?_ | refine Wl.nil ?_ | refine Wl.guardY rfl rfl ?_ | refine Wl.guardN rfl rfl ?_ | refine Wl.pickFE rfl (by conv => { lhs; whnf }) ?_ | refine Qseq.normal ?_ | refine Wc.seq ?_ | refine Wc.region ?_ | refine Wc.skip ?_ | refine Wc.ret ?_ | refine Qseq.ret ?_ | refine Wc.condT rfl ?_ | refine Wc.condF rfl ?_ | (refine Wl.eql rfl rfl (fun _ => ?_) (fun _ => ?_) <;> (first | (exfalso; omega) | skip)) | refine Wl.neq rfl rfl (fun _ => ?_) (fun _ => ?_)))
      · exact Qfn.ret1 rfl rfl ⟨_, rfl, rfl, nz⟩
      · have h0 : tform l = 0 := by omega
        have hbk := of_txts h0
        refine Wl.call (cOfTexts_spec qc (by rw [txts_flat h0]; omega)) rfl ?_
        rintro _ wf ⟨rfl, nf1⟩
        rw [hbk]
        (repeat' (first | refine Wl.moveE (by conv => { lhs; whnf }) ?_ | refine Wl.assignE (by conv => { lhs; whnf }) ?_ | refine Wl.nil ?_ | refine Wl.extract rfl rfl ?_ | refine Wl.guardY rfl rfl ?_ | refine Wl.pickTE rfl (by conv => { lhs; whnf }) ?_ | refine Qseq.normal ?_ | refine Wc.seq ?_ | refine Wc.region ?_ | refine Wc.ret ?_ | (refine Wl.eql rfl rfl (fun _ => ?_) (fun _ => ?_) <;> (first | (exfalso; omega) | skip)) | (refine Wl.seql rfl rfl (fun _ => ?_) (fun _ => ?_) <;> (first | (exfalso; contradiction) | skip))))
        exact Qfn.ret1 rfl rfl ⟨_, rfl, rfl, New.trans nz nf1⟩
  · have n := n18
    clear n18 n8 n17
    (repeat' (first | refine Wl.moveE (by conv => { lhs; whnf }) ?_ | refine Wl.assignE (by conv => { lhs; whnf }) ?_ | refine Wl.nil ?_ | refine Wl.extract rfl rfl ?_ | refine Qseq.normal ?_ | refine Wc.seq ?_ | refine Wc.region ?_ | refine Wc.skip ?_ | refine Wc.condF rfl ?_ | (refine Wl.eql rfl rfl (fun _ => ?_) (fun _ => ?_) <;> (first | (exfalso; omega) | skip))))
    rcases Nat.eq_zero_or_pos (l.length % 4) with h4 | h4 <;> rcases Nat.eq_zero_or_pos (l.length % 8) with h8 | h8
    · have f4 := form_ok (k := 4) h4
      have f8 := form_ok (k := 8) h8
      refine Wl.call (cU32s_spec hll) rfl ?_
      rintro _ wa ⟨ca, rfl, oa, na1⟩
      rw [f4.1]
      rw [f4.2] at oa
      (repeat' (first | refine Wl.moveE (by conv => { lhs; whnf }) ?_ | refine Wl.assignE (by conv => { lhs; whnf }) ?_ | refine Wl.nil ?_ | refine Wl.extract rfl rfl ?_ | refine Qseq.normal ?_ | refine Wc.seq ?_ | refine Wc.region ?_))
      refine Wl.call (cU64s_spec hll) rfl ?_
      rintro _ wb ⟨cb, rfl, ob, nb1⟩
      rw [f8.1]
      rw [f8.2] at ob
      (repeat' (first | refine Wl.moveE (by conv => { lhs; whnf }) ?_ | refine Wl.assignE (by conv => { lhs; whnf }) ?_ | refine Wl.nil ?_ | refine Wl.extract rfl rfl ?_ | refine Qseq.normal ?_ | refine Wc.seq ?_ | refine Wc.region ?_))
      refine Wl.call (cTexts_spec hll) rfl ?_
      rintro _ wc ⟨cc, rfl, oc, nc1⟩
      have nz := New.trans n (New.trans na1 (New.trans nb1 nc1))
      have qa := (oa.rd good32.mo).keep (stable_one _) (New.trans nb1 nc1).keep
      have qb := (ob.rd good64.mo).keep (stable_one _) nc1.keep
      have qc := oc.rd goodStr.mo
      (repeat' (first | refine Wl.moveE (by conv => { lhs; whnf }) ?_ | refine Wl.assignE (by conv => { lhs; whnf }) ?_ | refine Wl.nil ?_ | refine Wl.extract rfl rfl ?_ | refine Wl.lenStr rfl ?_ | refine Qseq.normal ?_ | refine Wc.seq ?_ | refine Wc.region ?_ | (refine Wl.eql rfl rfl (fun _ => ?_) (fun _ => ?_) <;> (first | (exfalso; omega) | skip))))
      refine Wl.remW rfl rfl (by omega) ?_
      rw [show (l.length : Int).tmod 4 = ((l.length % 4 : Nat) : Int) from rfl]
      (repeat' (refine Wl.eql rfl rfl (fun _ => ?_) (fun _ => ?_) <;> (first | (exfalso; omega) | skip)))
      refine Wl.bneq rfl rfl ?_
      (repeat' (first | refine Wl.moveE (by conv => { lhs; whnf }) ?_ | refine Wl.guardY rfl rfl ?_ | refine Wl.lenStr rfl ?_ | (refine Wl.eql rfl rfl (fun _ => ?_) (fun _ => ?_) <;> (first | (exfalso; omega) | skip))))
      refine Wl.remW rfl rfl (by omega) ?_
      rw [show (l.length : Int).tmod 8 = ((l.length % 8 : Nat) : Int) from rfl]
      (repeat' (first | refine Wl.guardY rfl rfl ?_ | (refine Wl.eql rfl rfl (fun _ => ?_) (fun _ => ?_) <;> (first | (exfalso; omega) | skip))))
      refine Wl.bneq rfl rfl ?_
      (repeat' (first | refine Wl.moveE (by conv => { lhs; whnf }) ?_ | refine Wl.guardY rfl rfl ?_ | refine Wl.pickFE rfl (by conv => { lhs; whnf }) ?_ | (refine Wl.eql rfl rfl (fun _ => ?_) (fun _ => ?_) <;> (first | (exfalso; omega) | skip))))
      refine Wl.call (cOfU32s_spec qa (fun x hx => pieces4_lt x hx) (by rw [pieces_length]; omega)) rfl ?_
      rintro _ wd ⟨rfl, nd1⟩
      rw [be_pieces (by omega) h4]
      replace nz := New.trans nz nd1
      replace qb := qb.keep (stable_one _) nd1.keep
      replace qc := qc.keep (stable_one _) nd1.keep
      (repeat' (first | refine Wl.moveE (by conv => { lhs; whnf }) ?_ | refine Wl.guardY rfl rfl ?_ | refine Wl.pickTE rfl (by conv => { lhs; whnf }) ?_ | refine Wl.pickFE rfl (by conv => { lhs; whnf }) ?_ | (refine Wl.eql rfl rfl (fun _ => ?_) (fun _ => ?_) <;> (first | (exfalso; omega) | skip)) | (refine Wl.sneq rfl rfl (fun _ => ?_) (fun _ => ?_) <;> (first | (exfalso; contradiction) | skip))))
      refine Wl.call (cOfU64s_spec qb (fun x hx => pieces8_lt x hx) (by rw [pieces_length]; omega)) rfl ?_
      rintro _ we ⟨rfl, ne1⟩
      rw [be_pieces (by omega) h8]
      replace nz := New.trans nz ne1
      replace qc := qc.keep (stable_one _) ne1.keep
      (repeat' (first | refine Wl.moveE (by conv => { lhs; whnf }) ?_ | refine Wl.assignE (by conv => { lhs; whnf }) ?_ | refine Wl.nil ?_ | refine Wl.guardY rfl rfl ?_ | refine Wl.pickTE rfl (by conv => { lhs; whnf }) ?_ | refine Wl.pickFE rfl (by conv => { lhs; whnf }) ?_ | refine Qseq.normal ?_ | refine Wc.seq ?_ | refine Wc.region ?_ | refine Wc.skip ?_ | refine Wc.ret ?_ | refine Qseq.ret ?_ | refine Wc.condT rfl ?_ | refine Wc.condF rfl ?_ | refine Wl.neq rfl rfl (fun _ => ?_) (fun _ => ?_) | (refine Wl.sneq rfl rfl (fun _ => ?_) (fun _ => ?_) <;> (first | (exfalso; contradiction) | skip))))
      · exact Qfn.ret1 rfl rfl ⟨_, rfl, rfl, nz⟩
      · have h0 : tform l = 0 := by omega
        have hbk := of_txts h0
        refine Wl.call (cOfTexts_spec qc (by rw [txts_flat h0]; omega)) rfl ?_
        rintro _ wf ⟨rfl, nf1⟩
        rw [hbk]
        (repeat' (first | refine Wl.moveE (by conv => { lhs; whnf }) ?_ | refine Wl.assignE (by conv => { lhs; whnf }) ?_ | refine Wl.nil ?_ | refine Wl.extract rfl rfl ?_ | refine Wl.guardY rfl rfl ?_ | refine Wl.pickTE rfl (by conv => { lhs; whnf }) ?_ | refine Qseq.normal ?_ | refine Wc.seq ?_ | refine Wc.region ?_ | refine Wc.ret ?_ | (refine Wl.eql rfl rfl (fun _ => ?_) (fun _ => ?_) <;> (first | (exfalso; omega) | skip)) | (refine Wl.seql rfl rfl (fun _ => ?_) (fun _ => ?_) <;> (first | (exfalso; contradiction) | skip))))
        exact Qfn.ret1 rfl rfl ⟨_, rfl, rfl, New.trans nz nf1⟩
    · have f4 := form_ok (k := 4) h4
      have f8 := form_bad (k := 8) (l := l) (by omega)
      refine Wl.call (cU32s_spec hll) rfl ?_
      rintro _ wa ⟨ca, rfl, oa, na1⟩
      rw [f4.1]
      rw [f4.2] at oa
      (repeat' (first | refine Wl.moveE (by conv => { lhs; whnf }) ?_ | refine Wl.assignE (by conv => { lhs; whnf }) ?_ | refine Wl.nil ?_ | refine Wl.extract rfl rfl ?_ | refine Qseq.normal ?_ | refine Wc.seq ?_ | refine Wc.region ?_))
      refine Wl.call (cU64s_spec hll) rfl ?_
      rintro _ wb ⟨cb, rfl, ob, nb1⟩
      rw [f8.1]
      rw [f8.2] at ob
      (repeat' (first | refine Wl.moveE (by conv => { lhs; whnf }) ?_ | refine Wl.assignE (by conv => { lhs; whnf }) ?_ | refine Wl.nil ?_ | refine Wl.extract rfl rfl ?_ | refine Qseq.normal ?_ | refine Wc.seq ?_ | refine Wc.region ?_))
      refine Wl.call (cTexts_spec hll) rfl ?_
      rintro _ wc ⟨cc, rfl, oc, nc1⟩
      have nz := New.trans n (New.trans na1 (New.trans nb1 nc1))
      have qa := (oa.rd good32.mo).keep (stable_one _) (New.trans nb1 nc1).keep
      have qb := (ob.rd good64.mo).keep (stable_one _) nc1.keep
      have qc := oc.rd goodStr.mo
      (repeat' (first | refine Wl.moveE (by conv => { lhs; whnf }) ?_ | refine Wl.assignE (by conv => { lhs; whnf }) ?_ | refine Wl.nil ?_ | refine Wl.extract rfl rfl ?_ | refine Wl.lenStr rfl ?_ | refine Qseq.normal ?_ | refine Wc.seq ?_ | refine Wc.region ?_ | (refine Wl.eql rfl rfl (fun _ => ?_) (fun _ => ?_) <;> (first | (exfalso; omega) | skip))))
      refine Wl.remW rfl rfl (by omega) ?_
      rw [show (l.length : Int).tmod 4 = ((l.length % 4 : Nat) : Int) from rfl]
      (repeat' (refine Wl.eql rfl rfl (fun _ => ?_) (fun _ => ?_) <;> (first | (exfalso; omega) | skip)))
      refine Wl.bneq rfl rfl ?_
      (repeat' (first | refine Wl.moveE (by conv => { lhs; whnf }) ?_ | refine Wl.guardY rfl rfl ?_ | refine Wl.lenStr rfl ?_ | (refine Wl.eql rfl rfl (fun _ => ?_) (fun _ => ?_) <;> (first | (exfalso; omega) | skip))))
      refine Wl.remW rfl rfl (by omega) ?_
      rw [show (l.length : Int).tmod 8 = ((l.length % 8 : Nat) : Int) from rfl]
      (repeat' (first | refine Wl.guardY rfl rfl ?_ | (refine Wl.eql rfl rfl (fun _ => ?_) (fun _ => ?_) <;> (first | (exfalso; omega) | skip))))
      refine Wl.bneq rfl rfl ?_
      (repeat' (first | refine Wl.moveE (by conv => { lhs; whnf }) ?_ | refine Wl.guardY rfl rfl ?_ | refine Wl.pickFE rfl (by conv => { lhs; whnf }) ?_ | (refine Wl.eql rfl rfl (fun _ => ?_) (fun _ => ?_) <;> (first | (exfalso; omega) | skip))))
      refine Wl.call (cOfU32s_spec qa (fun x hx => pieces4_lt x hx) (by rw [pieces_length]; omega)) rfl ?_
      rintro _ wd ⟨rfl, nd1⟩
      rw [be_pieces (by omega) h4]
      replace nz := New.trans nz nd1
      replace qb := qb.keep (stable_one _) nd1.keep
      replace qc := qc.keep (stable_one _) nd1.keep
      (repeat' (first | refine Wl.moveE (by conv => { lhs; whnf }) ?_ | refine Wl.assignE (by conv => { lhs; whnf }) ?_ | refine Wl.nil ?_ | refine Wl.guardY rfl rfl ?_ | refine Wl.guardN rfl rfl ?_ | refine Wl.pickTE rfl (by conv => { lhs; whnf }) ?_ | refine Wl.pickFE rfl (by conv => { lhs; whnf }) ?_ | refine Qseq.normal ?_ | refine Wc.seq ?_ | refine Wc.region ?_ | refine Wc.skip ?_ | refine Wc.ret ?_ | refine Qseq.ret ?_ | refine Wc.condT rfl ?_ | refine Wc.condF rfl ?_ | (refine Wl.eql rfl rfl (fun _ => ?_) (fun _ => ?_) <;> (first | (exfalso; omega) | skip)) | refine Wl.neq rfl rfl (fun _ => ?_) (fun _ => ?_) | (refine Wl.sneq rfl rfl (fun _ => ?_) (fun _ => ?_) <;> (first | (exfalso; contradiction) | skip))))
      · exact Qfn.ret1 rfl rfl ⟨_, rfl, rfl, nz⟩
      · have h0 : tform l = 0 := by omega
        have hbk := of_txts h0
        refine Wl.call (cOfTexts_spec qc (by rw [txts_flat h0]; omega)) rfl ?_
        rintro _ wf ⟨rfl, nf1⟩
        rw [hbk]
        (repeat' (first | refine Wl.moveE (by conv => { lhs; whnf }) ?_ | refine Wl.assignE (by conv => { lhs; whnf }) ?_ | refine Wl.nil ?_ | refine Wl.extract rfl rfl ?_ | refine Wl.guardY rfl rfl ?_ | refine Wl.pickTE rfl (by conv => { lhs; whnf }) ?_ | refine Qseq.normal ?_ | refine Wc.seq ?_ | refine Wc.region ?_ | refine Wc.ret ?_ | (refine Wl.eql rfl rfl (fun _ => ?_) (fun _ => ?_) <;> (first | (exfalso; omega) | skip)) | (refine Wl.seql rfl rfl (fun _ => ?_) (fun _ => ?_) <;> (first | (exfalso; contradiction) | skip))))
        exact Qfn.ret1 rfl rfl ⟨_, rfl, rfl, New.trans nz nf1⟩
    · exfalso; omega
    · have f4 := form_bad (k := 4) (l := l) (by omega)
      have f8 := form_bad (k := 8) (l := l) (by omega)
      refine Wl.call (cU32s_spec hll) rfl ?_
      rintro _ wa ⟨ca, rfl, oa, na1⟩
      rw [f4.1]
      rw [f4.2] at oa
      (repeat' (first | refine Wl.moveE (by conv => { lhs; whnf }) ?_ | refine Wl.assignE (by conv => { lhs; whnf }) ?_ | refine Wl.nil ?_ | refine Wl.extract rfl rfl ?_ | refine Qseq.normal ?_ | refine Wc.seq ?_ | refine Wc.region ?_))
      refine Wl.call (cU64s_spec hll) rfl ?_
      rintro _ wb ⟨cb, rfl, ob, nb1⟩
      rw [f8.1]
      rw [f8.2] at ob
      (repeat' (first | refine Wl.moveE (by conv => { lhs; whnf }) ?_ | refine Wl.assignE (by conv => { lhs; whnf }) ?_ | refine Wl.nil ?_ | refine Wl.extract rfl rfl ?_ | refine Qseq.normal ?_ | refine Wc.seq ?_ | refine Wc.region ?_))
      refine Wl.call (cTexts_spec hll) rfl ?_
      rintro _ wc ⟨cc, rfl, oc, nc1⟩
      have nz := New.trans n (New.trans na1 (New.trans nb1 nc1))
      have qa := (oa.rd good32.mo).keep (stable_one _) (New.trans nb1 nc1).keep
      have qb := (ob.rd good64.mo).keep (stable_one _) nc1.keep
      have qc := oc.rd goodStr.mo
      (repeat' (first | refine Wl.moveE (by conv => { lhs; whnf }) ?_ | refine Wl.assignE (by conv => { lhs; whnf }) ?_ | refine Wl.nil ?_ | refine Wl.extract rfl rfl ?_ | refine Wl.lenStr rfl ?_ | refine Qseq.normal ?_ | refine Wc.seq ?_ | refine Wc.region ?_ | (refine Wl.eql rfl rfl (fun _ => ?_) (fun _ => ?_) <;> (first | (exfalso; omega) | skip))))
      refine Wl.remW rfl rfl (by omega) ?_
      rw [show (l.length : Int).tmod 4 = ((l.length % 4 : Nat) : Int) from rfl]
      (repeat' (refine Wl.eql rfl rfl (fun _ => ?_) (fun _ => ?_) <;> (first | (exfalso; omega) | skip)))
      refine Wl.bneq rfl rfl ?_
      (repeat' (first | refine Wl.moveE (by conv => { lhs; whnf }) ?_ | refine Wl.guardY rfl rfl ?_ | refine Wl.lenStr rfl ?_ | (refine Wl.eql rfl rfl (fun _ => ?_) (fun _ => ?_) <;> (first | (exfalso; omega) | skip))))
      refine Wl.remW rfl rfl (by omega) ?_
      rw [show (l.length : Int).tmod 8 = ((l.length % 8 : Nat) : Int) from rfl]
      (repeat' (first | refine Wl.guardY rfl rfl ?_ | (refine Wl.eql rfl rfl (fun _ => ?_) (fun _ => ?_) <;> (first | (exfalso; omega) | skip))))
      refine Wl.bneq rfl rfl ?_
      (repeat' (first | refine Wl.moveE (by conv => { lhs; whnf }) ?_ | refine Wl.assignE (by conv => { lhs; whnf }) ?_ | refine Wl.nil ?_ | refine Wl.guardY rfl rfl ?_ | refine Wl.guardN rfl rfl ?_ | refine Wl.pickFE rfl (by conv => { lhs; whnf }) ?_ | refine Qseq.normal ?_ | refine Wc.seq ?_ | refine Wc.region ?_ | refine Wc.skip ?_ | refine Wc.ret ?_ | refine Qseq.ret ?_ | refine Wc.condT rfl ?_ | refine Wc.condF rfl ?_ | (refine Wl.eql rfl rfl (fun _ => ?_) (fun _ => ?_) <;> (first | (exfalso; omega) | skip)) | refine Wl.neq rfl rfl (fun _ => ?_) (fun _ => ?_)))
      · exact Qfn.ret1 rfl rfl ⟨_, rfl, rfl, nz⟩
      · have h0 : tform l = 0 := by omega
        have hbk := of_txts h0
        refine Wl.call (cOfTexts_spec qc (by rw [txts_flat h0]; omega)) rfl ?_
        rintro _ wf ⟨rfl, nf1⟩
        rw [hbk]
        (repeat' (first | refine Wl.moveE (by conv => { lhs; whnf }) ?_ | refine Wl.assignE (by conv => { lhs; whnf }) ?_ | refine Wl.nil ?_ | refine Wl.extract rfl rfl ?_ | refine Wl.guardY rfl rfl ?_ | refine Wl.pickTE rfl (by conv => { lhs; whnf }) ?_ | refine Qseq.normal ?_ | refine Wc.seq ?_ | refine Wc.region ?_ | refine Wc.ret ?_ | (refine Wl.eql rfl rfl (fun _ => ?_) (fun _ => ?_) <;> (first | (exfalso; omega) | skip)) | (refine Wl.seql rfl rfl (fun _ => ?_) (fun _ => ?_) <;> (first | (exfalso; contradiction) | skip))))
        exact Qfn.ret1 rfl rfl ⟨_, rfl, rfl, New.trans nz nf1⟩
end Go.Proofs.YthppadlcejpgbaaGreatDoor

namespace Go.Proofs.YthppadlcejpgbaaGreatDoor
open Go Wk
open Go.RowKit (Below)
attribute [local irreducible] Go.Calls

theorem show_len (l : List UInt8) : (showM l).length ≤ 5 * l.length + 2 := by
  rcases look_show l with ⟨_, _, h⟩ | ⟨_, _, hp, h⟩ | ⟨_, _, h4, h⟩ | ⟨_, _, h⟩
  · rw [h]; simp
  · rw [h]
    have h1 := join_sum (sep := [44, 32]) (txts l)
    rw [txts_sum (plainB_spec hp).1] at h1
    simp only [List.length_cons, List.length_nil] at h1
    omega
  · rw [h]
    have h1 := join_len (sep := [32]) (m := 18) (xs := (pieces 4 l).map numT) fun y hy => by obtain ⟨x, _, rfl⟩ := List.mem_map.1 hy; exact numT_len x
    simp only [List.length_map, List.length_singleton, pieces_length] at h1
    simp only [List.length_cons, List.length_append, List.length_nil]
    omega
  · rw [h]
    have h1 := join_len (sep := [32]) (m := 2) (xs := l.map hexB) fun y hy => by obtain ⟨x, _, rfl⟩ := List.mem_map.1 hy; exact Nat.le_refl _
    simp only [List.length_map, List.length_singleton] at h1
    simp only [List.length_cons, List.length_append, List.length_nil]
    omega
theorem show_parse_le {s : List UInt8} (h : (parseM s).2 = 0) : (parseM s).1.length ≤ 4 * s.length + 4 := by
  unfold parseM at h ⊢
  split at h
  · rename_i v hc
    have := cand_len hc
    split at h
    · rename_i e
      simp only [hc, e, if_true]
      exact this
    · cases h
  · cases h
set_option maxHeartbeats 1000000 in
theorem shown_law {w : World} (hD : DeB w) (hE : ErrV w) {v u s : List UInt8} (hv : v.length ≤ 1048576) (hu : u.length ≤ 1048576) (hs : s.length ≤ 1048576) :
    Calls Tryz.prog 5 #[vs v, vs u, vs s] w (Ret fun r w' => r = .bool true ∧ New w w') := by
  have hlv := show_len v
  refine calls_of_Wc Tryz.func5 rfl Tryz.ntmps5 rfl ?_
  (repeat' (first | refine Wl.assignE (by conv => { lhs; whnf }) ?_ | refine Wl.nil ?_ | refine Qseq.normal ?_ | refine Wc.seq ?_ | refine Wc.region ?_))
  refine Wl.call (awake_spec hD hE) rfl ?_
  rintro _ w1 ⟨rfl, n1⟩
  (repeat' (first | refine Wl.moveE (by conv => { lhs; whnf }) ?_ | refine Wl.nil ?_ | refine Wl.notB rfl ?_ | refine Qseq.normal ?_ | refine Wc.seq ?_ | refine Wc.region ?_ | refine Wc.skip ?_ | refine Wc.condF rfl ?_))
  refine Wl.call (Show_spec (hD.new n1) (show v.length ≤ 100000000 by omega)) rfl ?_
  rintro _ w2 ⟨rfl, n2⟩
  have n12 := n1.trans n2
  (repeat' (first | refine Wl.moveE (by conv => { lhs; whnf }) ?_ | refine Wl.assignE (by conv => { lhs; whnf }) ?_ | refine Wl.nil ?_ | refine Qseq.normal ?_ | refine Wc.seq ?_ | refine Wc.region ?_))
  refine Wl.call (Show_spec (hD.new n12) (show u.length ≤ 100000000 by omega)) rfl ?_
  rintro _ w3 ⟨rfl, n3⟩
  have n13 := n12.trans n3
  (repeat' (first | refine Wl.moveE (by conv => { lhs; whnf }) ?_ | refine Wl.assignE (by conv => { lhs; whnf }) ?_ | refine Wl.nil ?_ | refine Qseq.normal ?_ | refine Wc.seq ?_ | refine Wc.region ?_))
  refine Wl.call (ParseS_spec (s := showM v) (hD.new n13) (hE.new n13) (by omega)) rfl ?_
  rintro _ w4 ⟨rfl, n4⟩
  have n14 := n13.trans n4
  rw [parse_show]
  by_cases hvu : v = u
  · subst hvu
    (repeat' (first | refine Wl.moveE (by conv => { lhs; whnf }) ?_ | refine Wl.assignE (by conv => { lhs; whnf }) ?_ | refine Wl.nil ?_ | refine Wl.extract rfl rfl ?_ | refine Wl.guardY rfl rfl ?_ | refine Wl.pickFE rfl (by conv => { lhs; whnf }) ?_ | refine Qseq.normal ?_ | refine Wc.seq ?_ | refine Wc.region ?_ | (refine Wl.neq rfl rfl (fun _ => ?_) (fun _ => ?_) <;> (first | (exfalso; omega) | skip)) | (refine Wl.seql rfl rfl (fun _ => ?_) (fun _ => ?_) <;> (first | (exfalso; contradiction) | skip)) | (refine Wl.sneq rfl rfl (fun _ => ?_) (fun _ => ?_) <;> (first | (exfalso; contradiction) | skip))))
    refine Wl.bneq rfl rfl ?_
    (repeat' (first | refine Wl.moveE (by conv => { lhs; whnf }) ?_ | refine Wl.nil ?_ | refine Wl.pickFE rfl (by conv => { lhs; whnf }) ?_ | refine Qseq.normal ?_ | refine Wc.seq ?_ | refine Wc.region ?_ | refine Wc.skip ?_ | refine Wc.condF rfl ?_))
    refine Wl.call (ParseS_spec (s := s) (hD.new n14) (hE.new n14) (by omega)) rfl ?_
    rintro _ w5 ⟨rfl, n5⟩
    have n15 := n14.trans n5
    by_cases h0 : (parseM s).2 = 0
    · have hle := show_parse_le h0
      have hok := parse_ok h0
      (repeat' (first | refine Wl.moveE (by conv => { lhs; whnf }) ?_ | refine Wl.assignE (by conv => { lhs; whnf }) ?_ | refine Wl.nil ?_ | refine Wl.extract rfl rfl ?_ | refine Wl.guardY rfl rfl ?_ | refine Qseq.normal ?_ | refine Wc.seq ?_ | refine Wc.region ?_ | (refine Wl.neq rfl rfl (fun _ => ?_) (fun _ => ?_) <;> (first | (exfalso; omega) | skip))))
      refine Wl.call (Show_spec (l := (parseM s).1) (hD.new n15) (by omega)) rfl ?_
      rintro _ w6 ⟨rfl, n6⟩
      rw [hok]
      (repeat' (first | refine Wl.moveE (by conv => { lhs; whnf }) ?_ | refine Wl.assignE (by conv => { lhs; whnf }) ?_ | refine Wl.nil ?_ | refine Wl.guardY rfl rfl ?_ | refine Wl.pickFE rfl (by conv => { lhs; whnf }) ?_ | refine Qseq.normal ?_ | refine Wc.ret ?_ | (refine Wl.seql rfl rfl (fun _ => ?_) (fun _ => ?_) <;> (first | (exfalso; contradiction) | skip))))
      exact Qfn.ret1 rfl rfl ⟨_, rfl, rfl, n15.trans n6⟩
    · (repeat' (first | refine Wl.moveE (by conv => { lhs; whnf }) ?_ | refine Wl.assignE (by conv => { lhs; whnf }) ?_ | refine Wl.nil ?_ | refine Wl.extract rfl rfl ?_ | refine Wl.guardN rfl rfl ?_ | refine Wl.pickTE rfl (by conv => { lhs; whnf }) ?_ | refine Qseq.normal ?_ | refine Wc.seq ?_ | refine Wc.region ?_ | refine Wc.ret ?_ | (refine Wl.neq rfl rfl (fun _ => ?_) (fun _ => ?_) <;> (first | (exfalso; omega) | skip))))
      exact Qfn.ret1 rfl rfl ⟨_, rfl, rfl, n15⟩
  · have hne : showM v ≠ showM u := fun e => hvu (show_inj e)
    (repeat' (first | refine Wl.moveE (by conv => { lhs; whnf }) ?_ | refine Wl.assignE (by conv => { lhs; whnf }) ?_ | refine Wl.nil ?_ | refine Wl.extract rfl rfl ?_ | refine Wl.guardY rfl rfl ?_ | refine Wl.pickFE rfl (by conv => { lhs; whnf }) ?_ | refine Qseq.normal ?_ | refine Wc.seq ?_ | refine Wc.region ?_ | (refine Wl.neq rfl rfl (fun _ => ?_) (fun _ => ?_) <;> (first | (exfalso; omega) | skip)) | (refine Wl.seql rfl rfl (fun _ => ?_) (fun _ => ?_) <;> (first | (exfalso; contradiction) | skip)) | (refine Wl.sneq rfl rfl (fun _ => ?_) (fun _ => ?_) <;> (first | (exfalso; contradiction) | skip))))
    refine Wl.bneq rfl rfl ?_
    (repeat' (first | refine Wl.moveE (by conv => { lhs; whnf }) ?_ | refine Wl.nil ?_ | refine Wl.pickFE rfl (by conv => { lhs; whnf }) ?_ | refine Qseq.normal ?_ | refine Wc.seq ?_ | refine Wc.region ?_ | refine Wc.skip ?_ | refine Wc.condF rfl ?_))
    refine Wl.call (ParseS_spec (s := s) (hD.new n14) (hE.new n14) (by omega)) rfl ?_
    rintro _ w5 ⟨rfl, n5⟩
    have n15 := n14.trans n5
    by_cases h0 : (parseM s).2 = 0
    · have hle := show_parse_le h0
      have hok := parse_ok h0
      (repeat' (first | refine Wl.moveE (by conv => { lhs; whnf }) ?_ | refine Wl.assignE (by conv => { lhs; whnf }) ?_ | refine Wl.nil ?_ | refine Wl.extract rfl rfl ?_ | refine Wl.guardY rfl rfl ?_ | refine Qseq.normal ?_ | refine Wc.seq ?_ | refine Wc.region ?_ | (refine Wl.neq rfl rfl (fun _ => ?_) (fun _ => ?_) <;> (first | (exfalso; omega) | skip))))
      refine Wl.call (Show_spec (l := (parseM s).1) (hD.new n15) (by omega)) rfl ?_
      rintro _ w6 ⟨rfl, n6⟩
      rw [hok]
      (repeat' (first | refine Wl.moveE (by conv => { lhs; whnf }) ?_ | refine Wl.assignE (by conv => { lhs; whnf }) ?_ | refine Wl.nil ?_ | refine Wl.guardY rfl rfl ?_ | refine Wl.pickFE rfl (by conv => { lhs; whnf }) ?_ | refine Qseq.normal ?_ | refine Wc.ret ?_ | (refine Wl.seql rfl rfl (fun _ => ?_) (fun _ => ?_) <;> (first | (exfalso; contradiction) | skip))))
      exact Qfn.ret1 rfl rfl ⟨_, rfl, rfl, n15.trans n6⟩
    · (repeat' (first | refine Wl.moveE (by conv => { lhs; whnf }) ?_ | refine Wl.assignE (by conv => { lhs; whnf }) ?_ | refine Wl.nil ?_ | refine Wl.extract rfl rfl ?_ | refine Wl.guardN rfl rfl ?_ | refine Wl.pickTE rfl (by conv => { lhs; whnf }) ?_ | refine Qseq.normal ?_ | refine Wc.seq ?_ | refine Wc.region ?_ | refine Wc.ret ?_ | (refine Wl.neq rfl rfl (fun _ => ?_) (fun _ => ?_) <;> (first | (exfalso; omega) | skip))))
      exact Qfn.ret1 rfl rfl ⟨_, rfl, rfl, n15⟩
end Go.Proofs.YthppadlcejpgbaaGreatDoor

namespace Go.Proofs.YthppadlcejpgbaaGreatDoor
open Go Wk

def valB (c : UInt8) : Nat := if 48 ≤ c.toNat ∧ c.toNat ≤ 57 then c.toNat - 48 else if 97 ≤ c.toNat ∧ c.toNat ≤ 102 then c.toNat - 87 else 0
theorem val_dg : ∀ k : Nat, k < 16 → valB (dg k) = k := by decide
theorem val_no (c : UInt8) (h : ∀ k, k < 16 → dg k ≠ c) : valB c = 0 := by
  have key : ∀ k : Fin 256, (∀ j : Fin 16, dg j.val ≠ UInt8.ofNat k.val) → valB (UInt8.ofNat k.val) = 0 := by decide +kernel
  have := key ⟨c.toNat, c.toNat_lt⟩ (fun j => by simpa using h j.val j.isLt)
  simpa using this
theorem val_lt (c : UInt8) : valB c < 16 := by unfold valB; split; omega; split <;> omega
def gT : List UInt8 → List UInt8
  | [] => []
  | 34 :: r => 0 :: gT (r.drop 3)
  | 92 :: c :: r => c :: gT r
  | c :: r => c :: gT r
termination_by l => l.length
decreasing_by all_goals simp only [List.length_cons, List.length_drop]; omega
def gN : List UInt8 → Nat → List UInt8
  | [], _ => []
  | c :: r, n => if c = 32 ∨ c = 62 then be 4 (n : Int) ++ gN r 0 else if c = 120 then gN r 0 else gN r ((16 * n + valB c) % 18446744073709551616)
def gR : List UInt8 → List UInt8
  | a :: b :: r => UInt8.ofNat (16 * valB a + valB b) :: gR (r.drop 1)
  | _ => []
termination_by l => l.length
decreasing_by simp only [List.length_cons, List.length_drop]; omega
def guessM (s : List UInt8) : List UInt8 := match s with
  | 34 :: r => gT r
  | 60 :: r => gN r 0
  | 91 :: r => gR r
  | _ => []
theorem gT_34 (r : List UInt8) : gT (34 :: r) = 0 :: gT (r.drop 3) := by rw [gT]
theorem gT_92 (c : UInt8) (r : List UInt8) : gT (92 :: c :: r) = c :: gT r := by rw [gT]
theorem gT_end : gT [92] = [92] := by
  rw [gT]
  · rw [gT]
  · decide
  · intro c r _ h; cases h
theorem gT_plain {c : UInt8} (h1 : c ≠ 34) (h2 : c ≠ 92) (r : List UInt8) : gT (c :: r) = c :: gT r := by
  rw [gT.eq_def]
  split <;> simp_all
theorem gT_text (t r : List UInt8) : gT (t.flatMap esc ++ r) = t ++ gT r := by
  induction t with
  | nil => simp
  | cons c t ih =>
    rw [List.flatMap_cons, List.append_assoc]
    by_cases h : c = 34 ∨ c = 92
    · rw [show esc c = [92, c] from if_pos h]
      rw [List.cons_append, List.singleton_append, gT_92, ih]; rfl
    · rw [show esc c = [c] from if_neg h]
      rw [List.singleton_append, gT_plain (fun e => h (.inl e)) (fun e => h (.inr e)), ih]; rfl
theorem gT_join (t : List UInt8) (ts : List (List UInt8)) : gT ((t.flatMap esc ++ [34]) ++ Lib.joinTail [44, 32] (ts.map quoteM)) = (t :: ts).flatMap (· ++ [0]) := by
  induction ts generalizing t with
  | nil =>
    rw [List.append_assoc, gT_text]
    show t ++ gT (34 :: []) = _
    rw [gT_34]
    show t ++ 0 :: gT [] = _
    rw [gT]; simp
  | cons u us ih =>
    rw [List.append_assoc, gT_text]
    have e : [34] ++ Lib.joinTail [44, 32] ((u :: us).map quoteM) = 34 :: 44 :: 32 :: 34 :: ((u.flatMap esc ++ [34]) ++ Lib.joinTail [44, 32] (us.map quoteM)) := by
      simp [Lib.joinTail, quoteM]
    rw [e, gT_34]
    show t ++ 0 :: gT ((u.flatMap esc ++ [34]) ++ Lib.joinTail [44, 32] (us.map quoteM)) = _
    rw [ih]; simp
theorem hexF_dg : ∀ (f n : Nat), n < 16 ^ (f + 1) → ∀ c ∈ hexF f n, ∃ k, k < 16 ∧ c = dg k
  | 0, n, h, c, hc => by
    rw [Nat.zero_add, Nat.pow_one] at h
    unfold hexF at hc
    simp at hc
    exact ⟨n, h, hc⟩
  | f + 1, n, h, c, hc => by
    unfold hexF at hc
    split at hc
    · simp at hc; exact ⟨n, ‹_›, hc⟩
    · rcases List.mem_append.1 hc with hc | hc
      · exact hexF_dg f (n / 16) (Nat.div_lt_of_lt_mul (by rw [Nat.mul_comm]; exact h)) c hc
      · simp at hc; exact ⟨_, Nat.mod_lt _ (by omega), hc⟩
theorem dg_no : ∀ k : Nat, k < 16 → dg k ≠ 32 ∧ dg k ≠ 62 ∧ dg k ≠ 120 := by decide
theorem gN_dg {k : Nat} (hk : k < 16) (r : List UInt8) {n : Nat} (hn : 16 * n + k < 18446744073709551616) : gN (dg k :: r) n = gN r (16 * n + k) := by
  obtain ⟨h1, h2, h3⟩ := dg_no k hk
  rw [gN.eq_2, if_neg (by rintro (e | e); exact h1 e; exact h2 e), if_neg h3, val_dg k hk, Nat.mod_eq_of_lt hn]
theorem gN_digits {mx : Nat} (hmx : mx ≤ 4294967295) (r : List UInt8) : ∀ {ds : List UInt8} {n N : Nat}, (∀ c ∈ ds, ∃ k, k < 16 ∧ c = dg k) → puGo mx ds n = some N → gN (ds ++ r) n = gN r N
  | [], n, N, _, h => by cases h; rfl
  | c :: ds, n, N, hd, h => by
    obtain ⟨k, hk, rfl⟩ := hd c (by simp)
    simp only [puGo, hexv_dg k hk] at h
    split at h
    · rw [List.cons_append, gN_dg hk _ (by omega)]
      exact gN_digits hmx r (fun c hc => hd c (by simp [hc])) h
    · cases h
theorem gN_num {x : Int} (h0 : 0 ≤ x) (h1 : x < 4294967296) (r : List UInt8) (n : Nat) (hn : n = 0) : gN (numT x ++ r) n = gN r x.toNat := by
  subst hn
  have hp : (16 : Nat) ^ (15 + 1) = 18446744073709551616 := by decide
  have h2 := hexF_puGo (mx := 4294967295) 15 x.toNat (by omega) (by omega)
  have e : numT x ++ r = dg 0 :: 120 :: (hexF 15 x.toNat ++ r) := rfl
  rw [e, gN_dg (by omega) _ (by omega)]
  have e2 : gN (120 :: (hexF 15 x.toNat ++ r)) (16 * 0 + 0) = gN (hexF 15 x.toNat ++ r) 0 := by
    rw [gN.eq_2, if_neg (by decide), if_pos rfl]
  rw [e2]
  exact gN_digits (by omega) r (hexF_dg 15 x.toNat (by omega)) h2
theorem gN_sep {c : UInt8} (hc : c = 32 ∨ c = 62) (r : List UInt8) (n : Nat) : gN (c :: r) n = be 4 (n : Int) ++ gN r 0 := by
  rw [gN.eq_2, if_pos hc]
theorem gN_join : ∀ (x : Int) (xs : List Int), (∀ y ∈ x :: xs, 0 ≤ y ∧ y < 4294967296) → gN ((numT x ++ Lib.joinTail [32] (xs.map numT)) ++ [62]) 0 = (x :: xs).flatMap (be 4)
  | x, [], h => by
    obtain ⟨h0, h1⟩ := h x (by simp)
    rw [List.append_assoc, gN_num h0 h1 _ 0 rfl]
    show gN (62 :: []) _ = _
    rw [gN_sep (.inr rfl), Int.toNat_of_nonneg h0]
    simp [gN]
  | x, y :: ys, h => by
    obtain ⟨h0, h1⟩ := h x (by simp)
    have e : (numT x ++ Lib.joinTail [32] ((y :: ys).map numT)) ++ [62] = numT x ++ (32 :: ((numT y ++ Lib.joinTail [32] (ys.map numT)) ++ [62])) := by simp [Lib.joinTail]
    rw [e, gN_num h0 h1 _ 0 rfl, gN_sep (.inl rfl), Int.toNat_of_nonneg h0, gN_join y ys fun z hz => h z (by simp [hz])]
    rfl
theorem gR_two (c : UInt8) (d : UInt8) (r : List UInt8) : gR (hexB c ++ d :: r) = c :: gR r := by
  show gR (dg (c.toNat / 16) :: dg (c.toNat % 16) :: d :: r) = _
  rw [gR]
  have hc := c.toNat_lt
  rw [val_dg _ (by omega), val_dg _ (Nat.mod_lt _ (by omega)), Nat.div_add_mod]
  simp
theorem gR_join : ∀ (c : UInt8) (cs : List UInt8), gR ((hexB c ++ Lib.joinTail [32] (cs.map hexB)) ++ [93]) = c :: cs
  | c, [] => by
    rw [show (hexB c ++ Lib.joinTail [32] ([].map hexB)) ++ [93] = hexB c ++ 93 :: [] by simp [Lib.joinTail], gR_two]
    rw [gR.eq_def]
  | c, d :: ds => by
    have e : (hexB c ++ Lib.joinTail [32] ((d :: ds).map hexB)) ++ [93] = hexB c ++ 32 :: ((hexB d ++ Lib.joinTail [32] (ds.map hexB)) ++ [93]) := by simp [Lib.joinTail]
    rw [e, gR_two, gR_join d ds]
theorem guess_show (v : List UInt8) : guessM (showM v) = v := by
  rcases look_show v with ⟨_, rfl, h⟩ | ⟨_, _, hp, h⟩ | ⟨_, hne, h4, h⟩ | ⟨_, hne, h⟩
  · rw [h]; rfl
  · rw [h]
    obtain ⟨h1, h2, _⟩ := plainB_spec hp
    cases hx : txts v with
    | nil => exact absurd hx h2
    | cons t ts =>
      rw [List.map_cons, Lib.join_cons, show quoteM t = 34 :: (t.flatMap esc ++ [34]) from rfl, List.cons_append]
      show gT _ = _
      rw [gT_join, ← hx]
      have hof := of_txts h1
      unfold ofTexts at hof
      split at hof
      · simp at hof
      · rw [Prod.mk.injEq] at hof; exact hof.1
  · rw [h]
    show gN _ 0 = _
    have hl : 0 < v.length := List.length_pos_iff.2 hne
    have hlp := pieces_length 4 v
    have hb := be_pieces (k := 4) (by omega) h4
    have hp4 := pieces4_lt (v := v)
    cases hx : pieces 4 v with
    | nil => rw [hx] at hlp; simp at hlp; omega
    | cons x xs =>
      rw [hx] at hp4 hb
      rw [List.map_cons, Lib.join_cons, gN_join x xs hp4, hb]
  · rw [h]
    show gR _ = _
    cases v with
    | nil => exact absurd rfl hne
    | cons c cs => rw [List.map_cons, Lib.join_cons, gR_join]
/-- The program's answer is the reference's. -/
theorem parse_guess (s : List UInt8) : parseM s = if showM (guessM s) = s then (guessM s, 0) else ([], 4) := by
  split
  · rename_i h
    have := parse_show (guessM s)
    rw [h] at this; exact this
  · rename_i h
    unfold parseM
    split
    · rename_i v hc
      rw [if_neg fun e => h (by rw [← e, guess_show])]
    · rfl
end Go.Proofs.YthppadlcejpgbaaGreatDoor

namespace Go.Proofs.YthppadlcejpgbaaGreatDoor
open Go Wk
open Go.RowKit (Below)
attribute [local irreducible] Go.Calls

theorem tmodN (n k : Nat) : (n : Int).tmod (k : Int) = ((n % k : Nat) : Int) := rfl
theorem tdivN (n k : Nat) : (n : Int).tdiv (k : Int) = ((n / k : Nat) : Int) := rfl
theorem digit_spec {w : World} {n : Nat} : Calls Tryz.prog 43 #[.int .u64 n] w (Ret fun r w' => r = by8 (dg (n % 16)) ∧ w = w') := by
  refine calls_of_Wc Tryz.func43 rfl Tryz.ntmps43 rfl ?_
  (repeat' (first | refine Wl.moveE (by conv => { lhs; whnf }) ?_ | refine Wl.assignE (by conv => { lhs; whnf }) ?_ | refine Wl.nil ?_ | refine Qseq.normal ?_ | refine Wc.seq ?_ | refine Wc.region ?_))
  refine Wl.remW rfl rfl (by omega) ?_
  rw [show (n : Int).tmod 16 = ((n % 16 : Nat) : Int) from rfl]
  refine Wl.idxStr rfl rfl (by omega) (by rw [Int.toNat_natCast]; exact hexstr _ (Nat.mod_lt _ (by omega))) ?_
  (repeat' (first | refine Wl.assignE (by conv => { lhs; whnf }) ?_ | refine Wl.nil ?_ | refine Qseq.normal ?_ | refine Wc.ret ?_))
  exact Qfn.ret1 rfl rfl ⟨_, rfl, rfl, rfl⟩
/-- A number of at most k digits. -/
def Lt16 (u k : Nat) : Prop := u < 16 ^ k
set_option maxRecDepth 8000 in
theorem digits_spec {w : World} {n : Nat} (hn : n < 18446744073709551616) : Calls Tryz.prog 42 #[.int .u64 n] w (Ret fun r w' => r = vs (hexD n) ∧ New w w') := by
  have e : ∀ m : Nat, m < 18446744073709551616 → IntKind.u64.wrap ((m : Int).tdiv 16) = ((m / 16 : Nat) : Int) := fun m hm => by
    rw [show (m : Int).tdiv 16 = ((m / 16 : Nat) : Int) from rfl]
    exact wrap_u rfl (by omega) (by simp only [IntKind.bits]; omega)
  refine calls_of_Wc Tryz.func42 rfl Tryz.ntmps42 rfl ?_
  (repeat' (first | refine Wl.moveE (by conv => { lhs; whnf }) ?_ | refine Wl.assignE (by conv => { lhs; whnf }) ?_ | refine Wl.nil ?_ | refine Qseq.normal ?_ | refine Wc.seq ?_ | refine Wc.region ?_))
  refine Wl.call digit_spec rfl ?_
  rintro _ _ ⟨rfl, rfl⟩
  refine Wl.buildSlice1 (R := one by8) (y := dg (n % 16)) (Pe := fun _ => False) goodR8 rfl rfl rfl rfl (by omega) (by omega) fun v1 w1 ho1 n1 s1 hb1 => ?_
  refine Wl.bytesStr (ho1.rd (mono_one _)) rfl ?_
  (repeat' (first | refine Wl.moveE (by conv => { lhs; whnf }) ?_ | refine Wl.assignE (by conv => { lhs; whnf }) ?_ | refine Wl.nil ?_ | refine Qseq.normal ?_ | refine Wc.seq ?_ | refine Wc.region ?_))
  refine Wl.quoW rfl rfl (by omega) ?_
  rw [e n hn]
  (repeat' (first | refine Wl.assignE (by conv => { lhs; whnf }) ?_ | refine Wl.nil ?_ | refine Qseq.normal ?_ | refine Wc.block ?_))
  refine Wc.loop (σ := Nat × List UInt8) (fun s => [(0, .int .u64 s.1), (3, vs s.2)]) (fun s w' => s.2.length ≤ 16 ∧ s.1 < 16 ^ (16 - s.2.length) ∧ 1 ≤ s.2.length ∧ hexD n = (if s.1 = 0 then [] else hexF (15 - s.2.length) s.1) ++ s.2 ∧ New w w') (fun s => s.1) (n / 16, [dg (n % 16)]) ⟨rfl, rfl, trivial⟩ ⟨by simp, ?_, by simp, ?_, n1⟩ ?_
  · show n / 16 < 16 ^ 15
    exact Nat.div_lt_of_lt_mul (by have : (16 : Nat) * 16 ^ 15 = 18446744073709551616 := by decide
                                   omega)
  · show hexF 15 n = (if n / 16 = 0 then [] else hexF 14 (n / 16)) ++ [dg (n % 16)]
    rw [hexF.eq_2]
    by_cases h : n < 16
    · rw [if_pos h, if_pos (by omega), Nat.mod_eq_of_lt h]; rfl
    · rw [if_neg h, if_neg (by omega)]
  rintro ⟨u, ds⟩ G w2 ⟨hd, hu, h1, hx, n2⟩
  dsimp only at hd hu h1 hx
  have hu64 : u < 18446744073709551616 := Nat.lt_of_lt_of_le hu (Nat.le_trans (Nat.pow_le_pow_right (by omega) (show 16 - ds.length ≤ 16 by omega)) (by decide))
  simp only [upds]
  have hu' : Lt16 u (16 - ds.length) := hu
  clear hu
  (repeat' (first | refine Wl.moveE (by conv => { lhs; whnf }) ?_ | refine Wc.seq ?_ | refine Wc.region ?_))
  refine Wl.gtr rfl rfl (fun hpos => ?_) (fun hpos => ?_)
  · (repeat' (first | refine Wl.moveE (by conv => { lhs; whnf }) ?_ | refine Wl.nil ?_ | refine Qseq.normal ?_ | refine Wc.seq ?_ | refine Wc.region ?_ | refine Wc.block ?_ | refine Wc.skip ?_ | refine Wc.condT rfl ?_))
    have hu0 : u ≠ 0 := by omega
    have hu : u < 16 ^ (16 - ds.length) := hu'
    clear hu'
    have hd15 : ds.length ≤ 15 := by
      rcases Nat.lt_or_ge ds.length 16 with h | h
      · omega
      · have e : 16 - ds.length = 0 := by omega
        rw [e] at hu; omega
    have hu' : Lt16 u (16 - ds.length) := hu
    clear hu
    refine Wl.call digit_spec rfl ?_
    rintro _ _ ⟨rfl, rfl⟩
    refine Wl.buildSlice1 (R := one by8) (y := dg (u % 16)) (Pe := fun _ => False) goodR8 rfl rfl rfl rfl (by omega) (by omega) fun v3 w3 ho3 n3 s3 hb3 => ?_
    refine Wl.bytesStr (ho3.rd (mono_one _)) rfl ?_
    (repeat' (refine Wl.moveE (by conv => { lhs; whnf }) ?_))
    refine Wl.sadd rfl rfl (by simp only [List.length_singleton]; omega) ?_
    (repeat' (first | refine Wl.moveE (by conv => { lhs; whnf }) ?_ | refine Wl.assignE (by conv => { lhs; whnf }) ?_ | refine Wl.nil ?_ | refine Qseq.normal ?_ | refine Wc.region ?_ | refine Qblk.normal ?_))
    refine Wl.quoW rfl rfl (by omega) ?_
    rw [e u hu64]
    (repeat' (first | refine Wl.assignE (by conv => { lhs; whnf }) ?_ | refine Wl.nil ?_))
    have hu : u < 16 ^ (16 - ds.length) := hu'
    clear hu'
    refine Qloop.normal (u / 16, [dg (u % 16)] ++ ds) ⟨rfl, rfl, trivial⟩ ⟨by simp; omega, ?_, by simp, ?_, n2.trans n3⟩ (by dsimp only; omega)
    · show u / 16 < 16 ^ (16 - ([dg (u % 16)] ++ ds).length)
      have e : 16 - ds.length = (16 - ([dg (u % 16)] ++ ds).length) + 1 := by simp; omega
      rw [e, Nat.pow_succ] at hu
      exact Nat.div_lt_of_lt_mul (by rw [Nat.mul_comm]; exact hu)
    · rw [hx, if_neg hu0]
      have e2 : 15 - ([dg (u % 16)] ++ ds).length = 14 - ds.length := by simp only [List.length_append, List.length_singleton]; omega
      rw [e2]
      rcases Nat.lt_or_ge ds.length 15 with h | h
      · obtain ⟨f, hf⟩ : ∃ f, 15 - ds.length = f + 1 := ⟨14 - ds.length, by omega⟩
        rw [hf, show 14 - ds.length = f by omega, hexF.eq_2]
        by_cases h : u < 16
        · rw [if_pos h, if_pos (by omega), Nat.mod_eq_of_lt h]; rfl
        · rw [if_neg h, if_neg (by omega), List.append_assoc]
      · have e3 : 16 - ds.length = 1 := by omega
        rw [e3] at hu
        rw [show 15 - ds.length = 0 by omega, if_pos (by omega), hexF.eq_1, Nat.mod_eq_of_lt (by omega)]; rfl
  · (repeat' (first | refine Wl.moveE (by conv => { lhs; whnf }) ?_ | refine Wl.assignE (by conv => { lhs; whnf }) ?_ | refine Wl.nil ?_ | refine Qseq.normal ?_ | refine Wc.seq ?_ | refine Wc.region ?_ | refine Wc.exit ?_ | refine Wc.ret ?_ | refine Qseq.exit ?_ | refine Qblk.hit ?_ | refine Qloop.exit ?_ | refine Wc.condF rfl ?_))
    have hu0 : u = 0 := by omega
    rw [hx, if_pos hu0]
    exact Qfn.ret1 rfl rfl ⟨_, rfl, rfl, n2⟩
theorem join_snoc {sep y : List UInt8} {ys : List (List UInt8)} : Lib.join (ys ++ [y]) sep = (if ys = [] then [] else Lib.join ys sep ++ sep) ++ y := by
  cases ys with
  | nil => simp [Lib.join, List.intercalate]
  | cons x r =>
    rw [List.cons_append, Lib.join_cons, Lib.join_cons, if_neg (by simp)]
    simp [Lib.joinTail]
theorem join_step {α : Type} {f : α → List UInt8} {sep : List UInt8} {xs : List α} {i : Nat} {x : α} (h : xs[i]? = some x) : Lib.join ((xs.take (i + 1)).map f) sep = (if i = 0 then [] else Lib.join ((xs.take i).map f) sep ++ sep) ++ f x := by
  rw [List.take_add_one, h, List.map_append]
  show Lib.join ((xs.take i).map f ++ [f x]) sep = _
  rw [join_snoc]
  congr 1
  by_cases h0 : i = 0
  · subst h0; simp
  · rw [if_neg h0, if_neg]
    intro e
    have := congrArg List.length e
    have hi := (List.getElem?_eq_some_iff.1 h).1
    simp only [List.length_map, List.length_take, List.length_nil] at this
    omega
theorem quoted_spec {w : World} {t : List UInt8} (hl : t.length ≤ 100000000) : Calls Tryz.prog 40 #[vs t] w (Ret fun r w' => r = vs (quoteM t) ∧ New w w') := by
  have hle : ∀ i, ((t.take i).flatMap esc).length ≤ 200000000 := fun i => by
    have := esc_len (t.take i)
    have h1 := List.count_le_length (a := (92 : UInt8)) (l := t.take i)
    have h2 := quote_len (t.take i)
    unfold quoteM at h2
    rw [List.length_cons, List.length_append, List.length_singleton] at h2
    have h3 : (t.take i).length ≤ t.length := by rw [List.length_take]; omega
    omega
  refine calls_of_Wc Tryz.func40 rfl Tryz.ntmps40 rfl ?_
  (repeat' (first | refine Wl.assignE (by conv => { lhs; whnf }) ?_ | refine Wl.nil ?_ | refine Qseq.normal ?_ | refine Wc.seq ?_ | refine Wc.region ?_))
  refine Wl.buildSlice1 (R := one by8) (y := 34) (Pe := fun _ => False) goodR8 rfl rfl rfl rfl (by omega) (by omega) fun v1 w1 ho1 n1 s1 hb1 => ?_
  (repeat' (first | refine Wl.assignE (by conv => { lhs; whnf }) ?_ | refine Wl.nil ?_ | refine Qseq.normal ?_ | refine Wc.seq ?_ | refine Wc.region ?_ | refine Wc.block ?_))
  refine Wc.loop (σ := Nat × Value) (fun s => [(0, vs t), (3, s.2), (4, vi s.1)]) (fun s w' => s.1 ≤ t.length ∧ OwnS (one by8) 5 1 (fun b => w.heap.size ≤ b) (fun _ => False) w' s.2 (34 :: (t.take s.1).flatMap esc) ∧ New w w') (fun s => t.length - s.1) (0, v1) ⟨rfl, rfl, rfl, trivial⟩ ⟨Nat.zero_le _, ho1, n1⟩ ?_
  rintro ⟨i, bv⟩ G w2 ⟨hi, ho, n2⟩
  dsimp only at hi ho
  simp only [upds]
  have hlen := hle i
  have hsz := n2.size
  (repeat' (first | refine Wl.moveE (by conv => { lhs; whnf }) ?_ | refine Wl.nil ?_ | refine Wl.lenStr rfl ?_ | refine Qseq.normal ?_ | refine Wc.seq ?_ | refine Wc.region ?_ | refine Wc.block ?_ | refine Wc.skip ?_ | refine Wc.exit ?_ | refine Qseq.exit ?_ | refine Qblk.hit ?_ | refine Qloop.exit ?_ | refine Wc.condT rfl ?_ | refine Wc.condF rfl ?_ | refine Wl.lss rfl rfl (fun _ => ?_) (fun _ => ?_)))
  · obtain ⟨c, hc⟩ := get_lt' t (k := i) (by omega)
    have hcl := c.toNat_lt
    have hnext : (t.take (i + 1)).flatMap esc = (t.take i).flatMap esc ++ esc c := take_succ_flat esc hc
    by_cases hq : c = 34 ∨ c = 92
    · have hesc : esc c = [92, c] := if_pos hq
      have go : ∀ {v3 : Value} {w3 : World}, OwnS (one by8) 5 1 (fun b => w.heap.size ≤ b) (fun _ => False) w3 v3 (34 :: (t.take i).flatMap esc ++ [92]) → True := fun _ => trivial
      clear go
      rcases hq with rfl | rfl
      · refine Wl.idxStr (b := 34) rfl rfl (by omega) (by rw [Int.toNat_natCast]; exact hc) ?_
        (repeat' (first | refine Wl.moveE (by conv => { lhs; whnf }) ?_ | refine Wl.nil ?_ | refine Wl.guardN rfl rfl ?_ | refine Wl.pickTE rfl (by conv => { lhs; whnf }) ?_ | refine Qseq.normal ?_ | refine Wc.region ?_ | refine Wc.condT rfl ?_ | (refine Wl.eql rfl rfl (fun _ => ?_) (fun _ => ?_) <;> (first | (exfalso; contradiction) | skip))))
        refine Wl.append1 (y := 92) goodR8 ho rfl rfl rfl rfl rfl (by omega) (by omega) (by simp only [maxLen, List.length_cons]; omega) (by simp only [List.length_cons]; omega) rfl rfl fun v3 w3 p ho3 hc3 _ => ?_
        have hsz3 := hc3.size
        (repeat' (first | refine Wl.moveE (by conv => { lhs; whnf }) ?_ | refine Wl.assignE (by conv => { lhs; whnf }) ?_ | refine Wl.nil ?_ | refine Qseq.normal ?_ | refine Wc.region ?_))
        refine Wl.idxStr (b := 34) rfl rfl (by omega) (by rw [Int.toNat_natCast]; exact hc) ?_
        refine Wl.append1 (y := 34) goodR8 ho3 rfl rfl rfl rfl rfl (by omega) (by omega) (by simp only [maxLen, List.length_cons, List.length_append, List.length_nil]; omega) (by simp only [List.length_cons, List.length_append, List.length_nil]; omega) rfl rfl fun v4 w4 p ho4 hc4 _ => ?_
        (repeat' (first | refine Wl.moveE (by conv => { lhs; whnf }) ?_ | refine Wl.assignE (by conv => { lhs; whnf }) ?_ | refine Wl.nil ?_ | refine Qseq.normal ?_ | refine Wc.region ?_ | refine Qblk.normal ?_ | refine Wl.add rfl rfl (by omega) (by omega) ?_))
        refine Qloop.normal (i + 1, v4) ⟨rfl, rfl, rfl, trivial⟩ ⟨by dsimp only; omega, ?_, ?_⟩ (by dsimp only; omega)
        · dsimp only
          rw [hnext, hesc]
          have e : 34 :: ((t.take i).flatMap esc ++ [92, 34]) = (34 :: (t.take i).flatMap esc ++ [92]) ++ [34] := by simp
          rw [e]
          exact ho4.mono goodR8.mo (fun b _ hb => by rcases hb with (hb | hb) | hb <;> omega) (fun _ _ h => h)
        · exact Chg.trans (Chg.trans n2 hc3 fun b hb e => by have := (ho.lt e).1; omega) hc4 fun b hb e => by have := (ho3.lt e).1; omega
      · refine Wl.idxStr (b := 92) rfl rfl (by omega) (by rw [Int.toNat_natCast]; exact hc) ?_
        (repeat' (first | refine Wl.moveE (by conv => { lhs; whnf }) ?_ | refine Wl.guardY rfl rfl ?_ | (refine Wl.eql rfl rfl (fun _ => ?_) (fun _ => ?_) <;> (first | (exfalso; contradiction) | skip))))
        refine Wl.idxStr (b := 92) rfl rfl (by omega) (by rw [Int.toNat_natCast]; exact hc) ?_
        (repeat' (first | refine Wl.moveE (by conv => { lhs; whnf }) ?_ | refine Wl.nil ?_ | refine Wl.guardY rfl rfl ?_ | refine Wl.pickFE rfl (by conv => { lhs; whnf }) ?_ | refine Qseq.normal ?_ | refine Wc.region ?_ | refine Wc.condT rfl ?_ | (refine Wl.eql rfl rfl (fun _ => ?_) (fun _ => ?_) <;> (first | (exfalso; contradiction) | skip))))
        refine Wl.append1 (y := 92) goodR8 ho rfl rfl rfl rfl rfl (by omega) (by omega) (by simp only [maxLen, List.length_cons]; omega) (by simp only [List.length_cons]; omega) rfl rfl fun v3 w3 p ho3 hc3 _ => ?_
        have hsz3 := hc3.size
        (repeat' (first | refine Wl.moveE (by conv => { lhs; whnf }) ?_ | refine Wl.assignE (by conv => { lhs; whnf }) ?_ | refine Wl.nil ?_ | refine Qseq.normal ?_ | refine Wc.region ?_))
        refine Wl.idxStr (b := 92) rfl rfl (by omega) (by rw [Int.toNat_natCast]; exact hc) ?_
        refine Wl.append1 (y := 92) goodR8 ho3 rfl rfl rfl rfl rfl (by omega) (by omega) (by simp only [maxLen, List.length_cons, List.length_append, List.length_nil]; omega) (by simp only [List.length_cons, List.length_append, List.length_nil]; omega) rfl rfl fun v4 w4 p ho4 hc4 _ => ?_
        (repeat' (first | refine Wl.moveE (by conv => { lhs; whnf }) ?_ | refine Wl.assignE (by conv => { lhs; whnf }) ?_ | refine Wl.nil ?_ | refine Qseq.normal ?_ | refine Wc.region ?_ | refine Qblk.normal ?_ | refine Wl.add rfl rfl (by omega) (by omega) ?_))
        refine Qloop.normal (i + 1, v4) ⟨rfl, rfl, rfl, trivial⟩ ⟨by dsimp only; omega, ?_, ?_⟩ (by dsimp only; omega)
        · dsimp only
          rw [hnext, hesc]
          have e : 34 :: ((t.take i).flatMap esc ++ [92, 92]) = (34 :: (t.take i).flatMap esc ++ [92]) ++ [92] := by simp
          rw [e]
          exact ho4.mono goodR8.mo (fun b _ hb => by rcases hb with (hb | hb) | hb <;> omega) (fun _ _ h => h)
        · exact Chg.trans (Chg.trans n2 hc3 fun b hb e => by have := (ho.lt e).1; omega) hc4 fun b hb e => by have := (ho3.lt e).1; omega
    · have hesc : esc c = [c] := if_neg hq
      have h34 : c.toNat ≠ 34 := fun e => hq (.inl (UInt8.toNat_inj.1 e))
      have h92 : c.toNat ≠ 92 := fun e => hq (.inr (UInt8.toNat_inj.1 e))
      refine Wl.idxStr (b := c) rfl rfl (by omega) (by rw [Int.toNat_natCast]; exact hc) ?_
      (repeat' (first | refine Wl.moveE (by conv => { lhs; whnf }) ?_ | refine Wl.guardY rfl rfl ?_ | (refine Wl.eql rfl rfl (fun _ => ?_) (fun _ => ?_) <;> (first | (exfalso; omega) | skip))))
      refine Wl.idxStr (b := c) rfl rfl (by omega) (by rw [Int.toNat_natCast]; exact hc) ?_
      (repeat' (first | refine Wl.moveE (by conv => { lhs; whnf }) ?_ | refine Wl.nil ?_ | refine Wl.guardY rfl rfl ?_ | refine Wl.pickFE rfl (by conv => { lhs; whnf }) ?_ | refine Qseq.normal ?_ | refine Wc.region ?_ | refine Wc.skip ?_ | refine Wc.condF rfl ?_ | (refine Wl.eql rfl rfl (fun _ => ?_) (fun _ => ?_) <;> (first | (exfalso; omega) | skip))))
      refine Wl.idxStr (b := c) rfl rfl (by omega) (by rw [Int.toNat_natCast]; exact hc) ?_
      refine Wl.append1 (y := c) goodR8 ho rfl rfl rfl rfl rfl (by omega) (by omega) (by simp only [maxLen, List.length_cons]; omega) (by simp only [List.length_cons]; omega) rfl rfl fun v3 w3 p ho3 hc3 _ => ?_
      (repeat' (first | refine Wl.moveE (by conv => { lhs; whnf }) ?_ | refine Wl.assignE (by conv => { lhs; whnf }) ?_ | refine Wl.nil ?_ | refine Qseq.normal ?_ | refine Wc.region ?_ | refine Qblk.normal ?_ | refine Wl.add rfl rfl (by omega) (by omega) ?_))
      refine Qloop.normal (i + 1, v3) ⟨rfl, rfl, rfl, trivial⟩ ⟨by dsimp only; omega, ?_, ?_⟩ (by dsimp only; omega)
      · dsimp only
        rw [hnext, hesc]
        exact ho3.mono goodR8.mo (fun b _ hb => by rcases hb with hb | hb <;> omega) (fun _ _ h => h)
      · exact Chg.trans n2 hc3 fun b hb e => by have := (ho.lt e).1; omega
  · have hi2 : i = t.length := by omega
    subst hi2
    rw [List.take_length] at ho hlen
    refine Wl.append1 (y := 34) goodR8 ho rfl rfl rfl rfl rfl (by omega) (by omega) (by simp only [maxLen, List.length_cons]; omega) (by simp only [List.length_cons]; omega) rfl rfl fun v3 w3 p ho3 hc3 _ => ?_
    refine Wl.bytesStr (ho3.rd (mono_one _)) rfl ?_
    (repeat' (first | refine Wl.assignE (by conv => { lhs; whnf }) ?_ | refine Wl.nil ?_ | refine Qseq.normal ?_ | refine Wc.ret ?_))
    exact Qfn.ret1 rfl rfl ⟨_, rfl, rfl, Chg.trans n2 hc3 fun b hb e => by have := (ho.lt e).1; omega⟩
end Go.Proofs.YthppadlcejpgbaaGreatDoor
