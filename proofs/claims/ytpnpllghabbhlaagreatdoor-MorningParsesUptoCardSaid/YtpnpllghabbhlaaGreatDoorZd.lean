/-
  Texts of this claim, one behind the other: MH, MI, MK, ML, MN, M9, MA, MB, Mp, Br, Pan, MO, MQ, MR, MS, MT.
-/
import Derived.Test.YtpnpllghabbhlaaGreatDoorZc
import Derived.Lib.ItoaNum
import Derived.Lib.ItoaMem
import Derived.Lib.AppendIntMem
import Derived.Lib.ParseIntB
import Derived.Defers
import Derived.Recover
import Derived.Tactics2
namespace Go.Proofs.YtpnpllghabbhlaaGreatDoor
open Go Wk
open Go.RowKit (Below)
attribute [local irreducible] Go.Calls

theorem hexv_lt {c : UInt8} {n : Nat} (h : hexv c = some n) : n < 16 := by
  unfold hexv at h
  split at h
  · obtain rfl := Option.some.inj h; omega
  split at h
  · obtain rfl := Option.some.inj h; omega
  split at h
  · obtain rfl := Option.some.inj h; omega
  · cases h
theorem puR_two (a b : UInt8) : puR 255 [a, b] = (hexv a).bind fun x => (hexv b).map fun y => 16 * x + y := by
  unfold puR
  rw [if_neg (by simp)]
  unfold puGo
  cases ha : hexv a with
  | none => rfl
  | some x =>
    have hx := hexv_lt ha
    dsimp only [Option.bind_some]
    rw [if_pos (by omega)]
    unfold puGo
    cases hb : hexv b with
    | none => rfl
    | some y =>
      have hy := hexv_lt hb
      dsimp only [Option.map_some]
      rw [if_pos (by omega)]
      unfold puGo
      congr 1; omega
theorem drop_get {α : Type} {s : List α} {i : Nat} {c : α} (h : s[i]? = some c) : s.drop i = c :: s.drop (i + 1) := by
  obtain ⟨hi, rfl⟩ := List.getElem?_eq_some_iff.1 h
  exact List.drop_eq_getElem_cons hi
/-- What quoted answers. -/
def QuoR (s : List UInt8) (r : Value) : Prop := match unq (s.drop 1) with
  | none => r = .tuple #[vs [], vi 0, .bool false]
  | some x => ∃ k : Nat, r = .tuple #[vs x.1, vi k, .bool true] ∧ x.2 = s.drop k ∧ 1 ≤ k ∧ k ≤ s.length
theorem unq_nil : unq [] = none := by rw [unq]
theorem unq_end {r : List UInt8} : unq (34 :: r) = some ([], r) := by rw [unq, if_pos rfl]
theorem unq_hex {r : List UInt8} (h3 : 3 ≤ r.length) (h0 : r[0]? = some 120) : unq (92 :: r) = match pairV hexvW r with
    | none => none
    | some n => (unq (r.drop 3)).map fun x => (UInt8.ofNat n :: x.1, x.2) := by
  rw [unq, if_neg (by decide), if_pos ⟨rfl, h3, h0⟩]
  rfl
theorem unq_esc {c : UInt8} {r : List UInt8} (h : ¬ (3 ≤ (c :: r).length ∧ c = 120)) : unq (92 :: c :: r) = (unq r).map fun x => (c :: x.1, x.2) := by
  rw [unq, if_neg (by decide), if_neg (fun e => h ⟨e.2.1, by simpa using e.2.2⟩), if_pos ⟨rfl, by simp only [List.length_cons]; omega⟩]
  rfl
theorem unq_raw {c : UInt8} {r : List UInt8} (h : c ≠ 34) (h2 : ¬ (c = 92 ∧ 1 ≤ r.length)) : unq (c :: r) = (unq r).map fun x => (c :: x.1, x.2) := by
  rw [unq, if_neg h, if_neg (fun e => h2 ⟨e.1, by have := e.2.1; omega⟩), if_neg h2]
theorem quoted_spec {w : World} {s : List UInt8} (he : ErrV w) (hl : s.length ≤ 100000000) :
    Calls Tryz.prog 25 #[vs s] w (Ret fun r w' => QuoR s r ∧ New w w') := by
  refine calls_of_Wc Tryz.func25 rfl Tryz.ntmps25 rfl ?_
  (repeat' (first | refine Wl.assignE (by conv => { lhs; whnf }) ?_ | refine Wl.nil ?_ | refine Qseq.normal ?_ | refine Wc.seq ?_ | refine Wc.region ?_ | refine Wc.block ?_))
  refine Wc.loop (σ := Nat × Value × List UInt8) (fun x => [(0, vs s), (5, x.2.1), (6, vi x.1)])
    (fun x W => 1 ≤ x.1 ∧ x.1 ≤ s.length + 1 ∧ x.2.2.length ≤ x.1 ∧ (unq (s.drop 1) = (unq (s.drop x.1)).map fun y => (x.2.2 ++ y.1, y.2)) ∧ OwnS (one by8) 5 1 (fun k => w.heap.size ≤ k) NoB W x.2.1 x.2.2 ∧ New w W) (fun x => s.length + 1 - x.1) (1, .slice none 0 0, []) ⟨rfl, rfl, rfl, trivial⟩ ⟨Nat.le_refl _, by omega, by simp, by simp, OwnS.nil, Chg.refl _ _⟩ ?_
  rintro ⟨i, b, d⟩ G W ⟨h1, hi, hdl, hu, o, n⟩
  dsimp only at h1 hi hdl hu o
  simp only [upds]
  refine Wc.seq (Wc.seq ?_)
  (repeat' (first | refine Wl.moveE (by conv => { lhs; whnf }) ?_ | refine Wl.nil ?_ | refine Wl.lenStr rfl ?_ | refine Qseq.normal ?_ | refine Wc.region ?_ | refine Wc.skip ?_ | refine Wc.exit ?_ | refine Qseq.exit ?_ | refine Qblk.hit ?_ | refine Qloop.exit ?_ | refine Wc.condT rfl ?_ | refine Wc.condF rfl ?_ | refine Wl.lss rfl rfl (fun _ => ?_) (fun _ => ?_)))
  · obtain ⟨c, hc⟩ := get_byte s (k := i) (by omega)
    have hd := drop_get hc
    rw [hd] at hu
    refine Wc.seq ?_
    (repeat' (first | refine Wl.moveE (by conv => { lhs; whnf }) ?_ | refine Wc.seq ?_ | refine Wc.region ?_ | refine Wc.block ?_))
    refine Wl.idxStr rfl rfl (by omega) (by rw [Int.toNat_natCast]; exact hc) ?_
    (repeat' (first | refine Wl.moveE (by conv => { lhs; whnf }) ?_ | refine Wl.assignE (by conv => { lhs; whnf }) ?_ | refine Wl.nil ?_ | refine Wl.guardY rfl rfl ?_ | refine Wl.guardN rfl rfl ?_ | refine Wl.pickTE rfl (by conv => { lhs; whnf }) ?_ | refine Wl.pickFE rfl (by conv => { lhs; whnf }) ?_ | refine Wl.lenStr rfl ?_ | refine Qseq.normal ?_ | refine Wc.seq ?_ | refine Wc.region ?_ | refine Wc.block ?_ | refine Wc.condT rfl ?_ | refine Wc.condF rfl ?_ | refine Wl.add rfl rfl (by omega) (by omega) ?_ | refine Wl.lss rfl rfl (fun _ => ?_) (fun _ => ?_) | (refine Wl.eql rfl rfl (fun _ => ?_) (fun _ => ?_) <;> (first | (exfalso; omega) | skip))))
    · refine Wl.bytesStr (o.rd goodR8.mo) rfl ?_
      (repeat' (first | refine Wl.moveE (by conv => { lhs; whnf }) ?_ | refine Wl.assignE (by conv => { lhs; whnf }) ?_ | refine Wl.nil ?_ | refine Qseq.normal ?_ | refine Wc.ret ?_ | refine Qseq.ret ?_ | refine Qblk.ret ?_ | refine Qloop.ret ?_ | refine Wl.add rfl rfl (by omega) (by omega) ?_))
      obtain rfl : c = 34 := UInt8.toNat.inj (by show c.toNat = 34; omega)
      rw [unq_end, Option.map_some] at hu
      refine Qfn.ret3 rfl rfl rfl rfl ⟨_, rfl, ?_, n⟩
      unfold QuoR
      rw [hu]
      exact ⟨i + 1, by rw [List.append_nil]; rfl, rfl, by omega, by omega⟩
    · obtain rfl : c = 92 := UInt8.toNat.inj (by show c.toNat = 92; omega)
      obtain ⟨c1, hc1⟩ := get_byte s (k := i + 1) (by omega)
      have hd1 := drop_get hc1
      refine Wl.idxStr rfl rfl (by omega) (by rw [show ((i : Int) + 1).toNat = i + 1 by omega]; exact hc1) ?_
      have hlen : 3 ≤ (s.drop (i + 1)).length := by rw [List.length_drop]; omega
      (repeat' (first | refine Wl.moveE (by conv => { lhs; whnf }) ?_ | refine Wl.assignE (by conv => { lhs; whnf }) ?_ | refine Wl.nil ?_ | refine Wl.guardY rfl rfl ?_ | refine Wl.pickTE rfl (by conv => { lhs; whnf }) ?_ | refine Wl.lenStr rfl ?_ | refine Qseq.normal ?_ | refine Wc.seq ?_ | refine Wc.region ?_ | refine Wc.condT rfl ?_ | refine Wc.condF rfl ?_ | refine Wl.add rfl rfl (by omega) (by omega) ?_ | (refine Wl.lss rfl rfl (fun _ => ?_) (fun _ => ?_) <;> (first | (exfalso; omega) | skip)) | (refine Wl.eql rfl rfl (fun _ => ?_) (fun _ => ?_) <;> (first | (exfalso; omega) | skip))))
      · obtain rfl : c1 = 120 := UInt8.toNat.inj (by show c1.toNat = 120; omega)
        obtain ⟨a2, ha2⟩ := get_byte s (k := i + 2) (by omega)
        obtain ⟨a3, ha3⟩ := get_byte s (k := i + 3) (by omega)
        rw [unq_hex hlen (by rw [hd1]; rfl)] at hu
        have hpair : pairV hexvW (s.drop (i + 1)) = puR 255 [a2, a3] := by
          rw [puR_two]
          unfold pairV
          rw [List.getElem?_drop, List.getElem?_drop, show i + 1 + 1 = i + 2 from rfl, show i + 1 + 2 = i + 3 from rfl, ha2, ha3]
          rfl
        rw [hpair, List.drop_drop, show i + 1 + 3 = i + 4 from rfl] at hu
        refine Wl.strBoth rfl rfl rfl (by omega) (by omega) (by omega) ?_
        have hsub : (s.take ((i : Int) + 4).toNat).drop ((i : Int) + 2).toNat = [a2, a3] := by
          rw [show ((i : Int) + 4).toNat = i + 4 by omega, show ((i : Int) + 2).toNat = i + 2 by omega, List.drop_take, drop_get ha2, drop_get ha3, show i + 4 - (i + 2) = 2 by omega]
          rfl
        rw [hsub]
        refine Wl.call (Parse_spec (s := [a2, a3]) (bits := 8) (mx := 255) (he.new n) (.inl ⟨rfl, rfl⟩) (by simp)) rfl ?_
        rintro r w1 ⟨hr, n1⟩
        have nn := New.trans n n1
        have hz := n.size
        have hz1 := n1.size
        have oo := o.new (plain_one _) n1
        cases hp : puR 255 [a2, a3] with
        | none =>
          rw [hp] at hr hu
          obtain ⟨m, t, v, rfl⟩ := hr
          (repeat' (first | refine Wl.moveE (by conv => { lhs; whnf }) ?_ | refine Wl.assignE (by conv => { lhs; whnf }) ?_ | refine Wl.nil ?_ | refine Wl.extract rfl rfl ?_ | refine Qseq.normal ?_ | refine Wc.seq ?_ | refine Wc.region ?_))
          refine Wl.ineHeld rfl ?_
          (repeat' (first | refine Wl.assignE (by conv => { lhs; whnf }) ?_ | refine Wl.nil ?_ | refine Qseq.normal ?_ | refine Wc.seq ?_ | refine Wc.region ?_ | refine Wc.ret ?_ | refine Qseq.ret ?_ | refine Qblk.ret ?_ | refine Qloop.ret ?_ | refine Wc.condT rfl ?_))
          refine Qfn.ret3 rfl rfl rfl rfl ⟨_, rfl, ?_, nn⟩
          unfold QuoR
          rw [hu]
          rfl
        | some N =>
          rw [hp] at hr hu
          dsimp only at hu
          replace hr : r = .tuple #[.int .u64 N, Value.nilIface] := hr
          subst hr
          have hN : N < 256 := by
            rw [puR_two] at hp
            obtain ⟨x, hx, hp⟩ := Option.bind_eq_some_iff.1 hp
            obtain ⟨y, hy, rfl⟩ := Option.map_eq_some_iff.1 hp
            have := hexv_lt hx
            have := hexv_lt hy
            omega
          (repeat' (first | refine Wl.moveE (by conv => { lhs; whnf }) ?_ | refine Wl.assignE (by conv => { lhs; whnf }) ?_ | refine Wl.nil ?_ | refine Wl.extract rfl rfl ?_ | refine Qseq.normal ?_ | refine Wc.seq ?_ | refine Wc.region ?_))
          refine Wl.ineNil rfl ?_
          (repeat' (first | refine Wl.moveE (by conv => { lhs; whnf }) ?_ | refine Wl.nil ?_ | refine Qseq.normal ?_ | refine Wc.seq ?_ | refine Wc.region ?_ | refine Wc.skip ?_ | refine Wc.condF rfl ?_ | refine Wl.convI rfl ?_))
          rw [byteV hN]
          refine Wl.append1 (y := (UInt8.ofNat N)) goodR8 oo rfl rfl rfl rfl rfl (by omega) (by omega) (by simp only [maxLen]; omega) (by omega) rfl rfl fun v2 w2 _ o2 c2 lie => ?_
          (repeat' (first | refine Wl.moveE (by conv => { lhs; whnf }) ?_ | refine Wl.assignE (by conv => { lhs; whnf }) ?_ | refine Wl.nil ?_ | refine Qseq.normal ?_ | refine Wc.region ?_ | refine Qblk.normal ?_ | refine Wl.add rfl rfl (by omega) (by omega) ?_))
          refine Qloop.normal (i + 4, v2, d ++ [(UInt8.ofNat N)]) ⟨rfl, rfl, rfl, trivial⟩ ⟨by dsimp only; omega, by dsimp only; omega, by dsimp only; rw [List.length_append, List.length_singleton]; omega, ?_, o2.mono goodR8.mo (fun k _ e => by rcases e with e | e <;> omega) (fun _ _ e => e), (Chg.trans nn.any c2 fun _ _ e => e).toNew fun k hk e => by have := (oo.lt e).1; omega⟩ (by dsimp only; omega)
          dsimp only
          rw [hu, Option.map_map]
          congr 1
          funext y
          simp
      · have hne : c1 ≠ 120 := by rintro rfl; exact absurd rfl (by assumption)
        rw [hd1, unq_esc (fun e => hne e.2)] at hu
        refine Wl.idxStr rfl rfl (by omega) (by rw [show ((i : Int) + 1).toNat = i + 1 by omega]; exact hc1) ?_
        have nn := n
        have oo := o
        have hz := n.size
        refine Wl.append1 (y := c1) goodR8 oo rfl rfl rfl rfl rfl (by omega) (by omega) (by simp only [maxLen]; omega) (by omega) rfl rfl fun v2 w2 _ o2 c2 lie => ?_
        (repeat' (first | refine Wl.moveE (by conv => { lhs; whnf }) ?_ | refine Wl.assignE (by conv => { lhs; whnf }) ?_ | refine Wl.nil ?_ | refine Qseq.normal ?_ | refine Wc.region ?_ | refine Qblk.normal ?_ | refine Wl.add rfl rfl (by omega) (by omega) ?_))
        refine Qloop.normal (i + 2, v2, d ++ [c1]) ⟨rfl, rfl, rfl, trivial⟩ ⟨by dsimp only; omega, by dsimp only; omega, by dsimp only; rw [List.length_append, List.length_singleton]; omega, ?_, o2.mono goodR8.mo (fun k _ e => by rcases e with e | e <;> omega) (fun _ _ e => e), (Chg.trans nn.any c2 fun _ _ e => e).toNew fun k hk e => by have := (oo.lt e).1; omega⟩ (by dsimp only; omega)
        dsimp only
        rw [hu, Option.map_map]
        congr 1
        funext y
        simp
    · obtain rfl : c = 92 := UInt8.toNat.inj (by show c.toNat = 92; omega)
      obtain ⟨c1, hc1⟩ := get_byte s (k := i + 1) (by omega)
      have hd1 := drop_get hc1
      rw [hd1, unq_esc (fun e => by have := e.1; rw [← hd1, List.length_drop] at this; omega)] at hu
      refine Wl.idxStr rfl rfl (by omega) (by rw [show ((i : Int) + 1).toNat = i + 1 by omega]; exact hc1) ?_
      have nn := n
      have oo := o
      have hz := n.size
      refine Wl.append1 (y := c1) goodR8 oo rfl rfl rfl rfl rfl (by omega) (by omega) (by simp only [maxLen]; omega) (by omega) rfl rfl fun v2 w2 _ o2 c2 lie => ?_
      (repeat' (first | refine Wl.moveE (by conv => { lhs; whnf }) ?_ | refine Wl.assignE (by conv => { lhs; whnf }) ?_ | refine Wl.nil ?_ | refine Qseq.normal ?_ | refine Wc.region ?_ | refine Qblk.normal ?_ | refine Wl.add rfl rfl (by omega) (by omega) ?_))
      refine Qloop.normal (i + 2, v2, d ++ [c1]) ⟨rfl, rfl, rfl, trivial⟩ ⟨by dsimp only; omega, by dsimp only; omega, by dsimp only; rw [List.length_append, List.length_singleton]; omega, ?_, o2.mono goodR8.mo (fun k _ e => by rcases e with e | e <;> omega) (fun _ _ e => e), (Chg.trans nn.any c2 fun _ _ e => e).toNew fun k hk e => by have := (oo.lt e).1; omega⟩ (by dsimp only; omega)
      dsimp only
      rw [hu, Option.map_map]
      congr 1
      funext y
      simp
    · have h34 : c ≠ 34 := by rintro rfl; exact absurd rfl (by assumption)
      rw [unq_raw h34 (fun e => by have := e.2; rw [List.length_drop] at this; omega)] at hu
      have nn := n
      have oo := o
      have hz := n.size
      refine Wl.append1 (y := c) goodR8 oo rfl rfl rfl rfl rfl (by omega) (by omega) (by simp only [maxLen]; omega) (by omega) rfl rfl fun v2 w2 _ o2 c2 lie => ?_
      (repeat' (first | refine Wl.moveE (by conv => { lhs; whnf }) ?_ | refine Wl.assignE (by conv => { lhs; whnf }) ?_ | refine Wl.nil ?_ | refine Qseq.normal ?_ | refine Wc.region ?_ | refine Qblk.normal ?_ | refine Wl.add rfl rfl (by omega) (by omega) ?_))
      refine Qloop.normal (i + 1, v2, d ++ [c]) ⟨rfl, rfl, rfl, trivial⟩ ⟨by dsimp only; omega, by dsimp only; omega, by dsimp only; rw [List.length_append, List.length_singleton]; omega, ?_, o2.mono goodR8.mo (fun k _ e => by rcases e with e | e <;> omega) (fun _ _ e => e), (Chg.trans nn.any c2 fun _ _ e => e).toNew fun k hk e => by have := (oo.lt e).1; omega⟩ (by dsimp only; omega)
      dsimp only
      rw [hu, Option.map_map]
      congr 1
      funext y
      simp
    · have h34 : c ≠ 34 := by rintro rfl; exact absurd rfl (by assumption)
      have h92 : c ≠ 92 := by rintro rfl; exact absurd rfl (by assumption)
      rw [unq_raw h34 (fun e => h92 e.1)] at hu
      have nn := n
      have oo := o
      have hz := n.size
      refine Wl.append1 (y := c) goodR8 oo rfl rfl rfl rfl rfl (by omega) (by omega) (by simp only [maxLen]; omega) (by omega) rfl rfl fun v2 w2 _ o2 c2 lie => ?_
      (repeat' (first | refine Wl.moveE (by conv => { lhs; whnf }) ?_ | refine Wl.assignE (by conv => { lhs; whnf }) ?_ | refine Wl.nil ?_ | refine Qseq.normal ?_ | refine Wc.region ?_ | refine Qblk.normal ?_ | refine Wl.add rfl rfl (by omega) (by omega) ?_))
      refine Qloop.normal (i + 1, v2, d ++ [c]) ⟨rfl, rfl, rfl, trivial⟩ ⟨by dsimp only; omega, by dsimp only; omega, by dsimp only; rw [List.length_append, List.length_singleton]; omega, ?_, o2.mono goodR8.mo (fun k _ e => by rcases e with e | e <;> omega) (fun _ _ e => e), (Chg.trans nn.any c2 fun _ _ e => e).toNew fun k hk e => by have := (oo.lt e).1; omega⟩ (by dsimp only; omega)
      dsimp only
      rw [hu, Option.map_map]
      congr 1
      funext y
      simp
  · rw [show s.drop i = [] from List.drop_eq_nil_of_le (by omega), unq_nil] at hu
    (repeat' (first | refine Wl.assignE (by conv => { lhs; whnf }) ?_ | refine Wl.nil ?_ | refine Qseq.normal ?_ | refine Wc.seq ?_ | refine Wc.region ?_ | refine Wc.ret ?_))
    refine Qfn.ret3 rfl rfl rfl rfl ⟨_, rfl, ?_, n⟩
    unfold QuoR
    rw [hu]
    rfl
end Go.Proofs.YtpnpllghabbhlaaGreatDoor

namespace Go.Proofs.YtpnpllghabbhlaaGreatDoor
open Go Wk
open Go.RowKit (Below)
attribute [local irreducible] Go.Calls

theorem idx_split (u : List UInt8) : (Lib.indexByte u 32 < 0 ∧ word0 u = u ∧ rest0 u = []) ∨ ∃ o : Nat, Lib.indexByte u 32 = o ∧ o ≤ u.length ∧ word0 u = u.take o ∧ rest0 u = u.drop o := by
  have hg := Lib.indexByte_ge u 32
  by_cases h : Lib.indexByte u 32 = -1
  · left
    have h1 := Lib.indexByte_none h
    have hall : ∀ c ∈ u, (decide (c ≠ 32)) = true := fun c hc => decide_eq_true fun e => by
      obtain ⟨k, hk⟩ := List.mem_iff_getElem?.1 hc
      exact h1 k (by rw [hk, e])
    refine ⟨by omega, ?_, ?_⟩
    · unfold word0; have := List.takeWhile_append_of_pos (l₂ := []) hall; simpa using this
    · unfold rest0; have := List.dropWhile_append_of_pos (l₂ := []) hall; simpa using this
  · right
    obtain ⟨o, ho⟩ := Int.eq_ofNat_of_zero_le (show 0 ≤ Lib.indexByte u 32 by omega)
    obtain ⟨h1, h2⟩ := Lib.indexByte_some ho
    have hlt := (List.getElem?_eq_some_iff.1 h1).1
    have hall : ∀ c ∈ u.take o, (decide (c ≠ 32)) = true := fun c hc => decide_eq_true fun e => by
      obtain ⟨k, hk⟩ := List.mem_iff_getElem?.1 hc
      have hk2 := (List.getElem?_eq_some_iff.1 hk).1
      rw [List.length_take] at hk2
      rw [List.getElem?_take_of_lt (by omega)] at hk
      exact h2 k (by omega) (by rw [hk, e])
    have hsp : u = u.take o ++ 32 :: u.drop (o + 1) := by
      rw [← drop_get h1, List.take_append_drop]
    refine ⟨o, ho, by omega, ?_, ?_⟩
    · unfold word0
      conv => lhs; rw [hsp]
      rw [List.takeWhile_append_of_pos hall]; simp
    · unfold rest0
      conv => lhs; rw [hsp]
      rw [List.dropWhile_append_of_pos hall, drop_get h1]; simp
theorem unq_len : ∀ (n : Nat) {s : List UInt8} {x : List UInt8 × List UInt8}, s.length ≤ n → unq s = some x → x.1.length + x.2.length + 1 ≤ s.length := by
  intro n
  induction n with
  | zero =>
    intro s x hs h
    obtain rfl := List.length_eq_zero_iff.1 (Nat.le_zero.1 hs)
    rw [unq] at h; cases h
  | succ n ih =>
    intro s x hs h
    cases s with
    | nil => rw [unq] at h; cases h
    | cons c r =>
      rw [List.length_cons] at hs ⊢
      rw [unq] at h
      split at h
      · cases h; simp only [List.length_nil]; omega
      split at h
      · split at h
        · cases h
        · obtain ⟨y, hy, rfl⟩ := Option.map_eq_some_iff.1 h
          have := ih (by rw [List.length_drop]; omega) hy
          rw [List.length_drop] at this
          simp only [List.length_cons]; omega
      split at h
      · obtain ⟨y, hy, rfl⟩ := Option.map_eq_some_iff.1 h
        have := ih (by rw [List.length_drop]; omega) hy
        rw [List.length_drop] at this
        simp only [List.length_cons]; omega
      · obtain ⟨y, hy, rfl⟩ := Option.map_eq_some_iff.1 h
        have := ih (by omega) hy
        simp only [List.length_cons]; omega
theorem wordW_len (s : List UInt8) : (wordW s).length ≤ 4 * s.length + 2 := by
  unfold wordW
  split
  · omega
  · exact quoteW_len s
theorem lineW_len (l : List (List UInt8)) : (lineW l).length ≤ 4 * l.flatten.length + 3 * l.length := by
  induction l with
  | nil => exact Nat.le_refl _
  | cons s l ih =>
    have h1 := wordW_len s
    cases l with
    | nil => show (wordW s).length ≤ _; simp only [List.flatten_cons, List.flatten_nil, List.length_append, List.length_cons, List.length_nil]; omega
    | cons t l =>
      show (wordW s ++ 32 :: lineW (t :: l)).length ≤ _
      rw [List.length_append, List.length_cons]
      rw [List.flatten_cons, List.length_append, show (s :: t :: l).length = (t :: l).length + 1 from rfl]
      omega
/-- The words of a line that is one. -/
def unlineW (s : List UInt8) : Option (List (List UInt8)) := if lineW (fieldsR s) = s then some (fieldsR s) else none
theorem unline_P {s : List UInt8} : unlineW s = match fieldsP s with
    | none => none
    | some l => if lineW l = s then some l else none := by
  unfold unlineW
  by_cases h : lineW (fieldsR s) = s
  · rw [if_pos h]
    have h1 : fieldsP s = some (fieldsR s) := by
      have := lineW_P (fieldsR s)
      rwa [h] at this
    rw [h1]
    dsimp only
    rw [if_pos h]
  · rw [if_neg h]
    cases hp : fieldsP s with
    | none => rfl
    | some l =>
      dsimp only
      rw [if_neg]
      intro e
      have h1 : fieldsR s = l := by rw [← e, lineW_R]
      exact h (by rw [h1, e])
theorem flat_mem_len {l : List (List UInt8)} {x : List UInt8} (h : x ∈ l) : x.length ≤ l.flatten.length := by
  induction l with
  | nil => cases h
  | cons y l ih =>
    rw [List.flatten_cons, List.length_append]
    rcases List.mem_cons.1 h with rfl | h
    · omega
    · have := ih h; omega
/-- What Fields answers. -/
def FldR (lo : Nat) (w : World) (s : List UInt8) (r : Value) : Prop := match unlineW s with
  | none => r = .tuple #[.slice none 0 0, vi 4]
  | some l => ∃ v, r = .tuple #[v, vi 0] ∧ OwnS (one vs) 9 1 (fun k => lo ≤ k) NoB w v l
theorem TrimPrefix_spec {w : World} {a b : List UInt8} : Calls Tryz.prog 27 #[vs a, vs b] w (Ret fun r w' => r = vs (Lib.trimPrefix a b) ∧ w = w') := by
  refine (Tryz.strings_TrimPrefix ⟨a.toArray⟩ ⟨b.toArray⟩ w).mono ?_
  rintro e w' ⟨rfl, rfl⟩
  exact ⟨_, rfl, by simp, rfl⟩
theorem trim1_eq (r : List UInt8) : Lib.trimPrefix r [32] = trim1 r := by
  unfold Lib.trimPrefix Lib.hasPrefix trim1
  cases r with
  | nil => rfl
  | cons c r =>
    by_cases h : c = 32
    · subst h; rfl
    · rw [if_neg, if_neg]
      · intro e; exact h (Option.some.inj e)
      · simp; exact fun e => h e.symm
theorem FieldsP_spec {w : World} {s : List UInt8} (he : ErrV w) (hl : s.length ≤ 100000000) :
    Calls Tryz.prog 16 #[vs s] w (Ret fun r w' => FldR w.heap.size w' s r ∧ New w w') := by
  refine calls_of_Wc Tryz.func16 rfl Tryz.ntmps16 rfl ?_
  (repeat' (first | refine Wl.moveE (by conv => { lhs; whnf }) ?_ | refine Wl.assignE (by conv => { lhs; whnf }) ?_ | refine Wl.nil ?_ | refine Qseq.normal ?_ | refine Wc.seq ?_ | refine Wc.region ?_ | refine Wc.block ?_))
  refine Wc.loop (σ := List UInt8 × Value × List (List UInt8)) (fun x => [(0, vs s), (4, x.2.1), (5, vs x.1)])
    (fun x W => x.1.length + x.2.2.length ≤ s.length ∧ x.1.length + x.2.2.flatten.length ≤ s.length ∧ fieldsP s = (fieldsP x.1).map (x.2.2 ++ ·) ∧ OwnS (one vs) 9 1 (fun k => w.heap.size ≤ k) NoB W x.2.1 x.2.2 ∧ New w W) (fun x => x.1.length) (s, .slice none 0 0, []) ⟨rfl, rfl, rfl, trivial⟩ ⟨by simp, by simp, by simp, OwnS.nil, Chg.refl _ _⟩ ?_
  rintro ⟨u, v, l⟩ G W ⟨hlen, hlen2, hf, o, n⟩
  dsimp only at hlen hlen2 hf o
  simp only [upds]
  refine Wc.seq (Wc.seq ?_)
  (repeat' (first | refine Wl.moveE (by conv => { lhs; whnf }) ?_ | refine Wl.nil ?_ | refine Qseq.normal ?_ | refine Wc.region ?_ | refine Wc.skip ?_ | refine Wc.exit ?_ | refine Qseq.exit ?_ | refine Qblk.hit ?_ | refine Qloop.exit ?_ | refine Wc.condT rfl ?_ | refine Wc.condF rfl ?_ | refine Wl.sneq rfl rfl (fun _ => ?_) (fun _ => ?_)))
  · refine Wc.block (Wc.seq ?_)
    have hu0 : u ≠ [] := by assumption
    have hul := List.length_pos_iff.2 hu0
    obtain ⟨c, hc⟩ := get_byte u (k := 0) (by omega)
    have hhd : u.head? = some c := by rw [List.head?_eq_getElem?]; exact hc
    have hz := n.size
    (repeat' (first | refine Wl.assignE (by conv => { lhs; whnf }) ?_ | refine Wl.nil ?_ | refine Qseq.normal ?_ | refine Wc.region ?_))
    refine Wc.cutR (fun F W' => ∃ t r, agrees F [(0, vs s), (4, v), (5, vs r), (6, vs t)] ∧ fieldsP u = (fieldsP (trim1 r)).map (t :: ·) ∧ t.length + (trim1 r).length ≤ u.length ∧ (trim1 r).length < u.length ∧ New W W') ?_ ?_
    · refine Wc.seq ?_
      (repeat' (first | refine Wl.moveE (by conv => { lhs; whnf }) ?_ | refine Wc.region ?_))
      refine Wl.idxStr (j := 0) rfl rfl (by omega) hc ?_
      (repeat' (first | refine Wl.nil ?_ | refine Qseq.normal ?_ | refine Wc.condT rfl ?_ | refine Wc.condF rfl ?_ | refine Wl.eql rfl rfl (fun _ => ?_) (fun _ => ?_)))
      · obtain rfl : c = 34 := UInt8.toNat.inj (by show c.toNat = 34; omega)
        refine Wc.seq ?_
        (repeat' (first | refine Wl.moveE (by conv => { lhs; whnf }) ?_ | refine Wc.region ?_))
        refine Wl.call (quoted_spec (s := u) (he.new n) (by omega)) rfl ?_
        rintro r w1 ⟨hr, n1⟩
        unfold QuoR at hr
        cases hq : unq (u.drop 1) with
        | none =>
          rw [hq] at hr
          dsimp only at hr
          subst hr
          (repeat' (first | refine Wl.moveE (by conv => { lhs; whnf }) ?_ | refine Wl.assignE (by conv => { lhs; whnf }) ?_ | refine Wl.nil ?_ | refine Wl.extract rfl rfl ?_ | refine Wl.notB rfl ?_ | refine Qseq.normal ?_ | refine Wc.seq ?_ | refine Wc.region ?_ | refine Wc.ret ?_ | refine Qseq.ret ?_ | refine Qblk.ret ?_ | refine Qloop.ret ?_ | refine Wc.condT rfl ?_ | refine Qm.ret ?_))
          refine Qfn.ret2 rfl rfl rfl ⟨_, rfl, ?_, New.trans n n1⟩
          have : fieldsP s = none := by
            rw [hf, fieldsP, dif_neg hu0, if_pos hhd]
            rw [List.drop_one] at hq
            split
            · rfl
            · rename_i e; rw [hq] at e; cases e
          unfold FldR
          rw [unline_P, this]
          rfl
        | some x =>
          rw [hq] at hr
          obtain ⟨k, rfl, hx, hk1, hk2⟩ := hr
          have hql := unq_len _ (Nat.le_refl _) hq
          rw [List.length_drop] at hql
          have ht := trim1_le x.2
          (repeat' (first | refine Wl.moveE (by conv => { lhs; whnf }) ?_ | refine Wl.assignE (by conv => { lhs; whnf }) ?_ | refine Wl.nil ?_ | refine Wl.extract rfl rfl ?_ | refine Wl.notB rfl ?_ | refine Qseq.normal ?_ | refine Wc.seq ?_ | refine Wc.region ?_ | refine Wc.skip ?_ | refine Wc.condF rfl ?_))
          refine Wc.regionT rfl (by kernel_rfl) (fun w' => New w1 w') (Chg.drew _ _) ?_
          intro w2 n2
          (repeat' (refine Wt.quiet rfl (Wq.moveE (by conv => { lhs; whnf }) (Wq.nil ?_))))
          refine Wt.quiet rfl (Wq.strFrom rfl rfl (by omega) (by omega) (Wq.nil ?_))
          rw [Int.toNat_natCast, ← hx]
          (repeat' (first | refine Wt.nil ?_ | refine Wt.quiet rfl (Wq.assignE (by conv => { lhs; whnf }) (Wq.nil ?_))))
          refine Qm.normal ⟨x.1, x.2, ⟨rfl, rfl, rfl, rfl, trivial⟩, fieldsP_quote hhd (by rw [← List.drop_one]; exact hq), by omega, by omega, New.trans n1 n2⟩
      · have h34 : c ≠ 34 := by rintro rfl; exact absurd rfl (by assumption)
        have hne : u.head? ≠ some 34 := by rw [hhd]; exact fun e => h34 (Option.some.inj e)
        have hfp := fieldsP_plain hu0 hne
        have htr := rest0_trim hu0
        have hsum : (word0 u).length + (rest0 u).length = u.length := by
          have := congrArg List.length (List.takeWhile_append_dropWhile (p := fun c : UInt8 => decide (c ≠ 32)) (l := u))
          rw [List.length_append] at this
          exact this
        have ht := trim1_le (rest0 u)
        refine Wc.seq ?_
        (repeat' (first | refine Wl.moveE (by conv => { lhs; whnf }) ?_ | refine Wc.region ?_))
        refine Wl.call (IndexByte_spec (l := u) (c := 32)) rfl ?_
        rintro _ w1 ⟨rfl, rfl⟩
        (repeat' (first | refine Wl.assignE (by conv => { lhs; whnf }) ?_ | refine Wl.nil ?_ | refine Qseq.normal ?_))
        refine Wc.cutR (fun F W' => agrees F [(0, vs s), (4, v), (5, vs u), (10, vi ((word0 u).length : Nat))] ∧ W = W') ?_ ?_
        · (repeat' (first | refine Wl.moveE (by conv => { lhs; whnf }) ?_ | refine Wl.assignE (by conv => { lhs; whnf }) ?_ | refine Wl.nil ?_ | refine Wl.lenStr rfl ?_ | refine Qseq.normal ?_ | refine Wc.seq ?_ | refine Wc.region ?_ | refine Wc.skip ?_ | refine Wc.condT rfl ?_ | refine Wc.condF rfl ?_ | refine Wl.lss rfl rfl (fun _ => ?_) (fun _ => ?_)))
          · refine Qm.normal ⟨⟨rfl, rfl, rfl, ?_, trivial⟩, rfl⟩
            rcases idx_split u with ⟨h1, h2, h3⟩ | ⟨q, h1, h2, h3, h4⟩
            · rw [h2]; rfl
            · omega
          · refine Qm.normal ⟨⟨rfl, rfl, rfl, ?_, trivial⟩, rfl⟩
            rcases idx_split u with ⟨h1, h2, h3⟩ | ⟨q, h1, h2, h3, h4⟩
            · omega
            · rw [h3, List.length_take, Nat.min_eq_left h2]
              show vi (Lib.indexByte u 32) = _
              rw [h1]
        rintro F _ ⟨ag, rfl⟩
        refine Wc.frame _ ag fun G1 => ?_
        clear ag
        simp only [upds]
        have hw0 : u.take (word0 u).length = word0 u ∧ u.drop (word0 u).length = rest0 u := by
          have e : u = word0 u ++ rest0 u := (List.takeWhile_append_dropWhile (p := fun c : UInt8 => decide (c ≠ 32)) (l := u)).symm
          have e1 := List.take_left (l₁ := word0 u) (l₂ := rest0 u)
          have e2 := List.drop_left (l₁ := word0 u) (l₂ := rest0 u)
          rw [← e] at e1 e2
          exact ⟨e1, e2⟩
        skip
        refine Wc.regionT rfl (by kernel_rfl) (fun w' => New W w') (Chg.drew _ _) ?_
        intro w2 n2
        (repeat' (refine Wt.quiet rfl (Wq.moveE (by conv => { lhs; whnf }) (Wq.nil ?_))))
        refine Wt.quiet rfl (Wq.strTo rfl rfl (by omega) (by omega) (Wq.nil ?_))
        rw [Int.toNat_natCast, hw0.1]
        (repeat' (refine Wt.quiet rfl (Wq.moveE (by conv => { lhs; whnf }) (Wq.nil ?_))))
        refine Wt.quiet rfl (Wq.strFrom rfl rfl (by omega) (by omega) (Wq.nil ?_))
        rw [Int.toNat_natCast, hw0.2]
        (repeat' (first | refine Wt.nil ?_ | refine Wt.quiet rfl (Wq.assignE (by conv => { lhs; whnf }) (Wq.nil ?_))))
        exact Qm.normal ⟨word0 u, rest0 u, ⟨rfl, rfl, rfl, rfl, trivial⟩, hfp, by omega, htr, n2⟩
    rintro F W' ⟨t, r, ag, hfu, ht1, ht2, n1⟩
    refine Wc.frame _ ag fun G1 => ?_
    clear ag
    simp only [upds]
    have o1 := o.new (plain_one _) n1
    have hz1 := n1.size
    (repeat' (first | refine Wl.moveE (by conv => { lhs; whnf }) ?_ | refine Wc.seq ?_ | refine Wc.region ?_))
    refine Wl.append1 (y := t) goodVs o1 rfl rfl rfl rfl rfl (by omega) (by omega) (by simp only [maxLen]; omega) (by omega) rfl rfl fun v2 w2 _ o2 c2 lie => ?_
    (repeat' (first | refine Wl.moveE (by conv => { lhs; whnf }) ?_ | refine Wl.assignE (by conv => { lhs; whnf }) ?_ | refine Wl.nil ?_ | refine Qseq.normal ?_ | refine Wc.region ?_))
    refine Wl.call (TrimPrefix_spec (a := r) (b := [32])) rfl ?_
    rintro _ _ ⟨rfl, rfl⟩
    rw [trim1_eq]
    (repeat' (first | refine Wl.assignE (by conv => { lhs; whnf }) ?_ | refine Wl.nil ?_ | refine Qblk.normal ?_))
    refine Qloop.normal (trim1 r, v2, l ++ [t]) ⟨rfl, rfl, rfl, trivial⟩ ⟨by dsimp only; rw [List.length_append, List.length_singleton]; omega, by dsimp only; rw [List.flatten_append, List.length_append]; simp only [List.flatten_cons, List.flatten_nil, List.append_nil]; omega, ?_, o2.mono goodVs.mo (fun k _ e => by rcases e with e | e <;> omega) (fun _ _ e => e), (Chg.trans (New.trans n n1).any c2 fun _ _ e => e).toNew fun k hk e => by have := (o1.lt e).1; omega⟩ (by dsimp only; omega)
    dsimp only
    rw [hf, hfu, Option.map_map]
    congr 1
    funext y
    simp
  · have hu0 : u = [] := by assumption
    subst hu0
    rw [fieldsP_nil, Option.map_some, List.append_nil] at hf
    have hll := lineW_len l
    (repeat' (first | refine Wl.moveE (by conv => { lhs; whnf }) ?_ | refine Wc.seq ?_ | refine Wc.region ?_))
    refine Wl.call (LineP_spec (o.rd goodVs.mo) (fun x hx => ?_) (by omega)) rfl ?_
    · have := flat_mem_len hx
      omega
    rintro _ w1 ⟨rfl, n1⟩
    (repeat' (first | refine Wl.moveE (by conv => { lhs; whnf }) ?_ | refine Wl.assignE (by conv => { lhs; whnf }) ?_ | refine Wl.nil ?_ | refine Qseq.normal ?_ | refine Wc.seq ?_ | refine Wc.region ?_ | refine Wc.skip ?_ | refine Wc.ret ?_ | refine Qseq.ret ?_ | refine Wc.condT rfl ?_ | refine Wc.condF rfl ?_ | refine Wl.sneq rfl rfl (fun _ => ?_) (fun _ => ?_)))
    · refine Qfn.ret2 rfl rfl rfl ⟨_, rfl, ?_, New.trans n n1⟩
      unfold FldR
      rw [unline_P, hf]
      dsimp only
      rw [if_neg (by assumption)]
      rfl
    · refine Qfn.ret2 rfl rfl rfl ⟨_, rfl, ?_, New.trans n n1⟩
      unfold FldR
      rw [unline_P, hf]
      dsimp only
      rw [if_pos (by assumption)]
      exact ⟨_, rfl, o.new (plain_one _) n1⟩
end Go.Proofs.YtpnpllghabbhlaaGreatDoor

namespace Go.Proofs.YtpnpllghabbhlaaGreatDoor
open Go Wk
open Go.RowKit (Below)
attribute [local irreducible] Go.Calls

theorem unqR_nil : unqR [] = ([], []) := by rw [unqR]
theorem unqR_end {r : List UInt8} : unqR (34 :: r) = ([], r) := by rw [unqR, if_pos rfl]
theorem unqR_raw {c : UInt8} {r : List UInt8} (h : c ≠ 34) (h2 : c ≠ 92) : unqR (c :: r) = (c :: (unqR r).1, (unqR r).2) := by rw [unqR, if_neg h, if_pos h2]
theorem unqR_hex {r : List UInt8} (h3 : 3 ≤ r.length) (h0 : r[0]? = some 120) {k : Nat} (hp : pairV hexl r = some k) : unqR (92 :: r) = (UInt8.ofNat k :: (unqR (r.drop 3)).1, (unqR (r.drop 3)).2) := by
  rw [unqR, if_neg (by decide), if_neg (by decide), if_pos ⟨h3, h0, by rw [hp]; rfl⟩, hp]; rfl
theorem unqR_esc {c : UInt8} {r : List UInt8} (h : ¬ (3 ≤ (c :: r).length ∧ c = 120 ∧ (pairV hexl (c :: r)).isSome = true)) : unqR (92 :: c :: r) = (c :: (unqR r).1, (unqR r).2) := by
  rw [unqR, if_neg (by decide), if_neg (by decide), if_neg (fun e => h ⟨e.1, by simpa using e.2.1, e.2.2⟩), if_pos (by simp only [List.length_cons]; omega)]; rfl
theorem unqR_last : unqR [92] = ([], []) := by
  rw [unqR, if_neg (by decide), if_neg (by decide), if_neg (by simp), if_neg (by simp), unqR_nil]
/-- What word answers. -/
def WrdR (s : List UInt8) (r : Value) : Prop := ∃ k : Nat, r = .tuple #[vs (wordR s).1, vi k] ∧ k ≤ s.length ∧ s.drop (k + 1) = (wordR s).2.drop 1 ∧ (wordR s).1.length ≤ k
theorem word0_at {s : List UInt8} {n : Nat} (h1 : ∀ j, j < n → ∀ c, s[j]? = some c → c ≠ 32) (h2 : n ≤ s.length) (h3 : n = s.length ∨ s[n]? = some 32) : word0 s = s.take n ∧ rest0 s = s.drop n := by
  have hall : ∀ c ∈ s.take n, (decide (c ≠ 32)) = true := fun c hc => by
    obtain ⟨k, hk⟩ := List.mem_iff_getElem?.1 hc
    have hk2 := (List.getElem?_eq_some_iff.1 hk).1
    rw [List.length_take] at hk2
    rw [List.getElem?_take_of_lt (by omega)] at hk
    exact decide_eq_true (h1 k (by omega) c hk)
  have hsp : s = s.take n ++ s.drop n := (List.take_append_drop n s).symm
  have hd : (s.drop n).takeWhile (fun c => decide (c ≠ 32)) = [] ∧ (s.drop n).dropWhile (fun c => decide (c ≠ 32)) = s.drop n := by
    rcases h3 with h3 | h3
    · rw [List.drop_eq_nil_of_le (by omega)]; exact ⟨rfl, rfl⟩
    · rw [drop_get h3]; simp
  constructor
  · unfold word0
    conv => lhs; rw [hsp]
    rw [List.takeWhile_append_of_pos hall, hd.1, List.append_nil]
  · unfold rest0
    conv => lhs; rw [hsp]
    rw [List.dropWhile_append_of_pos hall, hd.2]
set_option maxHeartbeats 4000000 in
theorem word_spec {w : World} {s : List UInt8} (hl : s.length ≤ 100000000) :
    Calls Tryz.prog 21 #[vs s] w (Ret fun r w' => WrdR s r ∧ New w w') := by
  refine calls_of_Wc Tryz.func21 rfl Tryz.ntmps21 rfl ?_
  refine Wc.seq ?_
  (repeat' (first | refine Wl.assignE (by conv => { lhs; whnf }) ?_ | refine Wl.nil ?_ | refine Qseq.normal ?_ | refine Wc.region ?_))
  refine Wc.cutR (fun F W => agrees F [(0, vs s)] ∧ w = W ∧ s.head? = some 34) ?_ ?_
  · refine Wc.cutR (fun F W => agrees F [(0, vs s), (13, .bool (decide (s.head? ≠ some 34)))] ∧ w = W) ?_ ?_
    · (repeat' (first | refine Wl.moveE (by conv => { lhs; whnf }) ?_ | refine Wl.nil ?_ | refine Wl.guardY rfl rfl ?_ | refine Wl.guardN rfl rfl ?_ | refine Wl.pickTE rfl (by conv => { lhs; whnf }) ?_ | refine Wc.region ?_ | refine Wl.seql rfl rfl (fun _ => ?_) (fun _ => ?_)))
      · have hs : s = [] := by assumption
        exact Qm.normal ⟨⟨rfl, by rw [hs]; rfl, trivial⟩, rfl⟩
      · have hs : s ≠ [] := by assumption
        have hul := List.length_pos_iff.2 hs
        obtain ⟨c, hc⟩ := get_byte s (k := 0) (by omega)
        have hhd : s.head? = some c := by rw [List.head?_eq_getElem?]; exact hc
        refine Wl.idxStr (j := 0) rfl rfl (by omega) hc ?_
        (repeat' (first | refine Wl.nil ?_ | refine Wl.guardY rfl rfl ?_ | refine Wl.pickFE rfl (by conv => { lhs; whnf }) ?_ | refine Wl.neq rfl rfl (fun _ => ?_) (fun _ => ?_)))
        · have h34 : c ≠ 34 := by rintro rfl; exact absurd rfl (by assumption)
          exact Qm.normal ⟨⟨rfl, by rw [decide_eq_true (show s.head? ≠ some 34 by rw [hhd]; exact fun e => h34 (Option.some.inj e))]; rfl, trivial⟩, rfl⟩
        · obtain rfl : c = 34 := UInt8.toNat.inj (by show c.toNat = 34; omega)
          exact Qm.normal ⟨⟨rfl, by rw [decide_eq_false (fun e => e hhd)]; rfl, trivial⟩, rfl⟩
    rintro F _ ⟨ag, rfl⟩
    refine Wc.frame _ ag fun G => ?_
    clear ag
    simp only [upds]
    by_cases hh : s.head? = some 34
    · rw [decide_eq_false (fun e => e hh)]
      (repeat' (first | refine Wc.skip ?_ | refine Wc.condF rfl ?_))
      exact Qm.normal ⟨⟨rfl, trivial⟩, rfl, hh⟩
    · rw [decide_eq_true (show s.head? ≠ some 34 from hh)]
      have hwr : wordR s = (word0 s, rest0 s) := by unfold wordR; rw [if_neg hh]
      refine Wc.condT rfl ?_
      skip
      refine Wc.seq ?_
      (repeat' (first | refine Wl.assignE (by conv => { lhs; whnf }) ?_ | refine Wl.nil ?_ | refine Qseq.normal ?_ | refine Wc.region ?_))
      refine Wc.seq (Wc.block ?_)
      refine Wc.loop (σ := Nat) (fun i => [(0, vs s), (4, vi i)]) (fun i W => i ≤ s.length ∧ (∀ j, j < i → ∀ c, s[j]? = some c → c ≠ 32) ∧ w = W) (fun i => s.length - i) 0 ⟨rfl, rfl, trivial⟩ ⟨Nat.zero_le _, fun j hj => by omega, rfl⟩ ?_
      rintro i G2 _ ⟨hi, hall, rfl⟩
      simp only [upds]
      have fin : (i = s.length ∨ s[i]? = some 32) → WrdR s (.tuple #[vs (s.take i), vi i]) := fun e => by
        obtain ⟨e1, e2⟩ := word0_at hall hi e
        exact ⟨i, by rw [hwr, e1], hi, by rw [hwr, e2, List.drop_drop], by rw [hwr, e1, List.length_take]; omega⟩
      (repeat' (first | refine Wl.moveE (by conv => { lhs; whnf }) ?_ | refine Wl.nil ?_ | refine Wl.guardY rfl rfl ?_ | refine Wl.guardN rfl rfl ?_ | refine Wl.pickFE rfl (by conv => { lhs; whnf }) ?_ | refine Wl.lenStr rfl ?_ | refine Qseq.normal ?_ | refine Wc.seq ?_ | refine Wc.region ?_ | refine Wc.exit ?_ | refine Qseq.exit ?_ | refine Qblk.hit ?_ | refine Qloop.exit ?_ | refine Wc.condF rfl ?_ | refine Wl.lss rfl rfl (fun _ => ?_) (fun _ => ?_)))
      · obtain ⟨c, hc⟩ := get_byte s (k := i) (by omega)
        refine Wl.idxStr rfl rfl (by omega) (by rw [Int.toNat_natCast]; exact hc) ?_
        (repeat' (first | refine Wl.moveE (by conv => { lhs; whnf }) ?_ | refine Wl.assignE (by conv => { lhs; whnf }) ?_ | refine Wl.nil ?_ | refine Wl.guardY rfl rfl ?_ | refine Wl.pickTE rfl (by conv => { lhs; whnf }) ?_ | refine Qseq.normal ?_ | refine Wc.seq ?_ | refine Wc.region ?_ | refine Wc.block ?_ | refine Wc.skip ?_ | refine Wc.exit ?_ | refine Qseq.exit ?_ | refine Qblk.normal ?_ | refine Qblk.hit ?_ | refine Qloop.exit ?_ | refine Wc.condT rfl ?_ | refine Wc.condF rfl ?_ | refine Wl.add rfl rfl (by omega) (by omega) ?_ | refine Wl.neq rfl rfl (fun _ => ?_) (fun _ => ?_)))
        · have h32 : c ≠ 32 := by rintro rfl; exact absurd rfl (by assumption)
          exact Qloop.normal (i + 1) ⟨rfl, rfl, trivial⟩ ⟨by omega, fun j hj x hx => by
            rcases Nat.lt_or_ge j i with h | h
            · exact hall j h x hx
            · obtain rfl : j = i := by omega
              rw [hc] at hx
              exact Option.some.inj hx ▸ h32, rfl⟩ (by omega)
        · obtain rfl : c = 32 := UInt8.toNat.inj (by show c.toNat = 32; omega)
          refine Wl.strTo rfl rfl (by omega) (by omega) ?_
          rw [Int.toNat_natCast]
          (repeat' (first | refine Wl.moveE (by conv => { lhs; whnf }) ?_ | refine Wl.assignE (by conv => { lhs; whnf }) ?_ | refine Wl.nil ?_ | refine Qseq.normal ?_ | refine Wc.ret ?_ | refine Qm.ret ?_))
          exact Qfn.ret2 rfl rfl rfl ⟨_, rfl, fin (.inr hc), Chg.refl _ _⟩
      · refine Wl.strTo rfl rfl (by omega) (by omega) ?_
        rw [Int.toNat_natCast]
        (repeat' (first | refine Wl.moveE (by conv => { lhs; whnf }) ?_ | refine Wl.assignE (by conv => { lhs; whnf }) ?_ | refine Wl.nil ?_ | refine Qseq.normal ?_ | refine Wc.ret ?_ | refine Qm.ret ?_))
        exact Qfn.ret2 rfl rfl rfl ⟨_, rfl, fin (.inl (by omega)), Chg.refl _ _⟩
  rintro F _ ⟨ag, rfl, hh⟩
  refine Wc.frame _ ag fun G1 => ?_
  clear ag
  simp only [upds]
  have hwr : wordR s = unqR (s.drop 1) := by unfold wordR; rw [if_pos hh, List.drop_one]
  have hlen : 1 ≤ s.length := by
    cases s with
    | nil => cases hh
    | cons c s => simp
  skip
  refine Wc.seq ?_
  (repeat' (first | refine Wl.assignE (by conv => { lhs; whnf }) ?_ | refine Wl.nil ?_ | refine Qseq.normal ?_ | refine Wc.region ?_))
  refine Wc.seq ?_
  (repeat' (first | refine Wl.assignE (by conv => { lhs; whnf }) ?_ | refine Wl.nil ?_ | refine Qseq.normal ?_ | refine Wc.region ?_))
  refine Wc.seq (Wc.block ?_)
  refine Wc.loop (σ := Nat × Value × List UInt8) (fun x => [(0, vs s), (5, x.2.1), (6, vi x.1)])
    (fun x W => 1 ≤ x.1 ∧ x.1 ≤ s.length ∧ x.2.2.length ≤ x.1 ∧ (unqR (s.drop 1) = (x.2.2 ++ (unqR (s.drop x.1)).1, (unqR (s.drop x.1)).2)) ∧ OwnS (one by8) 5 1 (fun k => w.heap.size ≤ k) NoB W x.2.1 x.2.2 ∧ New w W) (fun x => s.length - x.1) (1, .slice none 0 0, []) ⟨rfl, rfl, rfl, trivial⟩ ⟨Nat.le_refl _, by omega, by simp, by simp, OwnS.nil, Chg.refl _ _⟩ ?_
  rintro ⟨i, b, d⟩ G W ⟨h1, hi, hdl, hu, o, n⟩
  dsimp only at h1 hi hdl hu o
  simp only [upds]
  have hz := n.size
  have hmin : (if (s.length : Int) < (i : Int) + 1 then (s.length : Int) else (i : Int) + 1) = ((min (i + 1) s.length : Nat) : Int) := by split <;> omega
  (repeat' (first | refine Wl.moveE (by conv => { lhs; whnf }) ?_ | refine Wl.nil ?_ | refine Wl.guardY rfl rfl ?_ | refine Wl.guardN rfl rfl ?_ | refine Wl.pickFE rfl (by conv => { lhs; whnf }) ?_ | refine Wl.lenStr rfl ?_ | refine Qseq.normal ?_ | refine Wc.seq ?_ | refine Wc.region ?_ | refine Wc.exit ?_ | refine Qseq.exit ?_ | refine Qblk.hit ?_ | refine Qloop.exit ?_ | refine Wc.condF rfl ?_ | refine Wl.lss rfl rfl (fun _ => ?_) (fun _ => ?_)))
  · obtain ⟨c, hc⟩ := get_byte s (k := i) (by omega)
    have hd := drop_get hc
    refine Wl.idxStr rfl rfl (by omega) (by rw [Int.toNat_natCast]; exact hc) ?_
    (repeat' (first | refine Wl.moveE (by conv => { lhs; whnf }) ?_ | refine Wl.nil ?_ | refine Wl.guardY rfl rfl ?_ | refine Wl.pickTE rfl (by conv => { lhs; whnf }) ?_ | refine Qseq.normal ?_ | refine Wc.seq ?_ | refine Wc.region ?_ | refine Wc.block ?_ | refine Wc.skip ?_ | refine Wc.exit ?_ | refine Qseq.exit ?_ | refine Qblk.hit ?_ | refine Qloop.exit ?_ | refine Wc.condT rfl ?_ | refine Wc.condF rfl ?_ | refine Wl.neq rfl rfl (fun _ => ?_) (fun _ => ?_)))
    · have h34 : c ≠ 34 := by rintro rfl; exact absurd rfl (by assumption)
      rw [hd] at hu
      refine Wl.idxStr rfl rfl (by omega) (by rw [Int.toNat_natCast]; exact hc) ?_
      (repeat' (first | refine Wl.moveE (by conv => { lhs; whnf }) ?_ | refine Wl.assignE (by conv => { lhs; whnf }) ?_ | refine Wl.nil ?_ | refine Wl.guardY rfl rfl ?_ | refine Wl.guardN rfl rfl ?_ | refine Wl.pickFE rfl (by conv => { lhs; whnf }) ?_ | refine Wl.lenStr rfl ?_ | refine Qseq.normal ?_ | refine Wc.seq ?_ | refine Wc.region ?_ | refine Wc.skip ?_ | refine Qblk.normal ?_ | refine Wc.condT rfl ?_ | refine Wc.condF rfl ?_ | refine Wl.add rfl rfl (by omega) (by omega) ?_ | refine Wl.lss rfl rfl (fun _ => ?_) (fun _ => ?_) | refine Wl.neq rfl rfl (fun _ => ?_) (fun _ => ?_)))
      · have h92 : c ≠ 92 := by rintro rfl; exact absurd rfl (by assumption)
        rw [unqR_raw h34 h92] at hu
        refine Wl.idxStr rfl rfl (by omega) (by rw [Int.toNat_natCast]; exact hc) ?_
        have nn := n
        have oo := o
        refine Wl.append1 (y := c) goodR8 oo rfl rfl rfl rfl rfl (by omega) (by omega) (by simp only [maxLen]; omega) (by omega) rfl rfl fun v2 w2 _ o2 c2 lie => ?_
        (repeat' (first | refine Wl.moveE (by conv => { lhs; whnf }) ?_ | refine Wl.assignE (by conv => { lhs; whnf }) ?_ | refine Wl.nil ?_ | refine Qseq.normal ?_ | refine Wc.region ?_ | refine Qblk.normal ?_ | refine Wl.add rfl rfl (by omega) (by omega) ?_))
        refine Qloop.normal (i + 1, v2, d ++ [c]) ⟨rfl, rfl, rfl, trivial⟩ ⟨by dsimp only; omega, by dsimp only; omega, by dsimp only; rw [List.length_append, List.length_singleton]; omega, ?_, o2.mono goodR8.mo (fun k _ e => by rcases e with e | e <;> omega) (fun _ _ e => e), (Chg.trans nn.any c2 fun _ _ e => e).toNew fun k hk e => by have := (oo.lt e).1; omega⟩ (by dsimp only; omega)
        dsimp only
        rw [hu, List.append_assoc]
        rfl
      · obtain rfl : c = 92 := UInt8.toNat.inj (by show c.toNat = 92; omega)
        obtain ⟨c1, hc1⟩ := get_byte s (k := i + 1) (by omega)
        obtain ⟨a2, ha2⟩ := get_byte s (k := i + 2) (by omega)
        obtain ⟨a3, ha3⟩ := get_byte s (k := i + 3) (by omega)
        have hd1 := drop_get hc1
        have hpair : pairV hexl (c1 :: s.drop (i + 1 + 1)) = (hexl a2).bind fun x => (hexl a3).map fun y => 16 * x + y := by
          rw [← hd1]
          unfold pairV
          rw [List.getElem?_drop, List.getElem?_drop, show i + 1 + 1 = i + 2 from rfl, show i + 1 + 2 = i + 3 from rfl, ha2, ha3]
          rfl
        refine Wl.idxStr rfl rfl (by omega) (by rw [show ((i : Int) + 1).toNat = i + 1 by omega]; exact hc1) ?_
        have hlen3 : 3 ≤ (s.drop (i + 1)).length := by rw [List.length_drop]; omega
        (repeat' (first | refine Wl.moveE (by conv => { lhs; whnf }) ?_ | refine Wl.assignE (by conv => { lhs; whnf }) ?_ | refine Wl.nil ?_ | refine Wl.guardY rfl rfl ?_ | refine Wl.guardN rfl rfl ?_ | refine Wl.pickTE rfl (by conv => { lhs; whnf }) ?_ | refine Wl.pickFE rfl (by conv => { lhs; whnf }) ?_ | refine Wl.lenStr rfl ?_ | refine Qseq.normal ?_ | refine Wc.seq ?_ | refine Wc.region ?_ | refine Wc.condT rfl ?_ | refine Wc.condF rfl ?_ | refine Wl.add rfl rfl (by omega) (by omega) ?_ | (refine Wl.lss rfl rfl (fun _ => ?_) (fun _ => ?_) <;> (first | (exfalso; omega) | skip)) | refine Wl.eql rfl rfl (fun _ => ?_) (fun _ => ?_)))
        · obtain rfl : c1 = 120 := UInt8.toNat.inj (by show c1.toNat = 120; omega)
          refine Wl.idxStr rfl rfl (by omega) (by rw [show ((i : Int) + 2).toNat = i + 2 by omega]; exact ha2) ?_
          refine Wl.guardY rfl rfl ?_
          refine Wl.call (digit1_spec (c := a2)) rfl ?_
          rintro _ _ ⟨rfl, rfl⟩
          (repeat' (first | refine Wl.moveE (by conv => { lhs; whnf }) ?_ | refine Wl.assignE (by conv => { lhs; whnf }) ?_ | refine Wl.nil ?_ | refine Wl.guardY rfl rfl ?_ | refine Wl.guardN rfl rfl ?_ | refine Wl.pickTE rfl (by conv => { lhs; whnf }) ?_ | refine Wl.pickFE rfl (by conv => { lhs; whnf }) ?_ | refine Wl.lenStr rfl ?_ | refine Qseq.normal ?_ | refine Wc.seq ?_ | refine Wc.region ?_ | refine Wc.condT rfl ?_ | refine Wc.condF rfl ?_ | refine Wl.add rfl rfl (by omega) (by omega) ?_ | (refine Wl.lss rfl rfl (fun _ => ?_) (fun _ => ?_) <;> (first | (exfalso; omega) | skip)) | refine Wl.geq rfl rfl (fun _ => ?_) (fun _ => ?_)))
          · refine Wl.idxStr rfl rfl (by omega) (by rw [show ((i : Int) + 3).toNat = i + 3 by omega]; exact ha3) ?_
            refine Wl.guardY rfl rfl ?_
            refine Wl.call (digit1_spec (c := a3)) rfl ?_
            rintro _ _ ⟨rfl, rfl⟩
            (repeat' (first | refine Wl.moveE (by conv => { lhs; whnf }) ?_ | refine Wl.assignE (by conv => { lhs; whnf }) ?_ | refine Wl.nil ?_ | refine Wl.guardY rfl rfl ?_ | refine Wl.pickTE rfl (by conv => { lhs; whnf }) ?_ | refine Wl.lenStr rfl ?_ | refine Qseq.normal ?_ | refine Wc.seq ?_ | refine Wc.region ?_ | refine Wc.condT rfl ?_ | refine Wc.condF rfl ?_ | refine Wl.add rfl rfl (by omega) (by omega) ?_ | (refine Wl.lss rfl rfl (fun _ => ?_) (fun _ => ?_) <;> (first | (exfalso; omega) | skip)) | refine Wl.geq rfl rfl (fun _ => ?_) (fun _ => ?_)))
            · obtain ⟨x, hx⟩ := Option.isSome_iff_exists.1 (digI_pos (c := a2) (by assumption))
              obtain ⟨y, hy⟩ := Option.isSome_iff_exists.1 (digI_pos (c := a3) (by assumption))
              have hx16 := (hexl_some hx).1
              have hy16 := (hexl_some hy).1
              have ex : digI a2 = (x : Int) := by unfold digI; rw [hx]
              have ey : digI a3 = (y : Int) := by unfold digI; rw [hy]
              rw [hx, hy, ← hd1] at hpair
              rw [unqR_hex hlen3 (by rw [hd1]; rfl) (k := 16 * x + y) hpair, List.drop_drop, show i + 1 + 3 = i + 4 from rfl] at hu
              refine Wc.regionT rfl (by kernel_rfl) (fun w' => Chg (fun k => b.ownBlock = some k) W w') (Chg.drew _ _) ?_
              intro w1 n1
              (repeat' (first | refine Wt.quiet rfl (Wq.moveE (by conv => { lhs; whnf }) (Wq.nil ?_)) | refine Wt.quiet rfl (Wq.add rfl rfl (by omega) (by omega) (Wq.nil ?_))))
              refine Wt.quiet rfl (Wq.idxStr rfl rfl (by omega) (by rw [show ((i : Int) + 2).toNat = i + 2 by omega]; exact ha2) (Wq.nil ?_))
              refine Wt.chain rfl (Wl.call (digit1_spec (c := a2)) rfl ?_)
              rintro _ _ ⟨rfl, rfl⟩
              refine Wl.nil ⟨rfl, n1.any, ?_⟩
              rw [ex]
              (repeat' (first | refine Wt.quiet rfl (Wq.moveE (by conv => { lhs; whnf }) (Wq.nil ?_)) | refine Wt.quiet rfl (Wq.add rfl rfl (by omega) (by omega) (Wq.nil ?_)) | refine Wt.quiet rfl (Wq.mul rfl rfl (by omega) (by omega) (Wq.nil ?_))))
              refine Wt.quiet rfl (Wq.idxStr rfl rfl (by omega) (by rw [show ((i : Int) + 3).toNat = i + 3 by omega]; exact ha3) (Wq.nil ?_))
              refine Wt.chain rfl (Wl.call (digit1_spec (c := a3)) rfl ?_)
              rintro _ _ ⟨rfl, rfl⟩
              refine Wl.nil ⟨rfl, n1.any, ?_⟩
              rw [ey]
              (repeat' (first | refine Wt.quiet rfl (Wq.add rfl rfl (by omega) (by omega) (Wq.nil ?_)) | refine Wt.quiet rfl (Wq.convI rfl (Wq.nil ?_))))
              rw [show (16 : Int) * (x : Int) + (y : Int) = ((16 * x + y : Nat) : Int) by omega, byteV (by omega)]
              have oo := o.new (plain_one _) n1
              have nn := New.trans n n1
              have hz1 := n1.size
              refine Wt.chain rfl (Wl.buildSlice1 (R := one by8) (Pe := NoB) (y := UInt8.ofNat (16 * x + y)) goodR8 rfl rfl rfl rfl (by omega) (by omega) fun v4 w4 o4 n4 s4 e4 => ?_)
              have n14 := New.trans n1 n4
              refine Wl.nil ⟨rfl, n14.any, ?_⟩
              refine Wt.chain rfl (Wl.appendAll (R := one by8) goodR8 (o.new (plain_one _) n14) (o4.rd goodR8.mo) (fun y cs hy => hy) rfl rfl (by omega) (by simp only [maxLen, List.length_singleton]; omega) (by simp only [List.length_singleton]; omega) fun v2 w2 o2 c2 lie _ => ?_)
              have c12 : Chg (fun k => b.ownBlock = some k) W w2 := Chg.trans n14.any c2 fun _ _ e => e
              have hz4 := n14.size
              refine Wl.nil ⟨rfl, c12, ?_⟩
              (repeat' (first | refine Wt.nil ?_ | refine Wt.quiet rfl (Wq.assignE (by conv => { lhs; whnf }) (Wq.nil ?_))))
              (repeat' (first | refine Wl.moveE (by conv => { lhs; whnf }) ?_ | refine Wl.assignE (by conv => { lhs; whnf }) ?_ | refine Wl.nil ?_ | refine Qseq.normal ?_ | refine Wc.region ?_ | refine Qblk.normal ?_ | refine Wl.add rfl rfl (by omega) (by omega) ?_))
              refine Qloop.normal (i + 4, v2, d ++ [UInt8.ofNat (16 * x + y)]) ⟨rfl, rfl, rfl, trivial⟩ ⟨by dsimp only; omega, by dsimp only; omega, by dsimp only; rw [List.length_append, List.length_singleton]; omega, ?_, o2.mono goodR8.mo (fun k _ e => by rcases e with e | e <;> omega) (fun _ _ e => e), (Chg.trans n.any c12 fun _ _ e => e).toNew fun k hk e => by have := (o.lt e).1; omega⟩ (by dsimp only; omega)
              dsimp only
              rw [hu, List.append_assoc]
              rfl
            · rw [hd1, unqR_esc (fun e => by have := e.2.2; rw [hpair] at this; cases h : hexl a2 with | none => rw [h] at this; cases this | some x => have h3 := digI_neg (c := a3) (by omega); rw [Option.isSome_eq_false_iff, Option.isNone_iff_eq_none] at h3; rw [h, h3] at this; cases this)] at hu
              refine Wl.idxStr rfl rfl (by omega) (by rw [show ((i : Int) + 1).toNat = i + 1 by omega]; exact hc1) ?_
              have nn := n
              have oo := o
              refine Wl.append1 (y := (120 : UInt8)) goodR8 oo rfl rfl rfl rfl rfl (by omega) (by omega) (by simp only [maxLen]; omega) (by omega) rfl rfl fun v2 w2 _ o2 c2 lie => ?_
              (repeat' (first | refine Wl.moveE (by conv => { lhs; whnf }) ?_ | refine Wl.assignE (by conv => { lhs; whnf }) ?_ | refine Wl.nil ?_ | refine Qseq.normal ?_ | refine Wc.region ?_ | refine Qblk.normal ?_ | refine Wl.add rfl rfl (by omega) (by omega) ?_))
              refine Qloop.normal (i + 2, v2, d ++ [(120 : UInt8)]) ⟨rfl, rfl, rfl, trivial⟩ ⟨by dsimp only; omega, by dsimp only; omega, by dsimp only; rw [List.length_append, List.length_singleton]; omega, ?_, o2.mono goodR8.mo (fun k _ e => by rcases e with e | e <;> omega) (fun _ _ e => e), (Chg.trans nn.any c2 fun _ _ e => e).toNew fun k hk e => by have := (oo.lt e).1; omega⟩ (by dsimp only; omega)
              dsimp only
              rw [hu, List.append_assoc]
              rfl
          · rw [hd1, unqR_esc (fun e => by have := e.2.2; have h3 := digI_neg (c := a2) (by omega); rw [Option.isSome_eq_false_iff, Option.isNone_iff_eq_none] at h3; rw [hpair, h3] at this; cases this)] at hu
            refine Wl.idxStr rfl rfl (by omega) (by rw [show ((i : Int) + 1).toNat = i + 1 by omega]; exact hc1) ?_
            have nn := n
            have oo := o
            refine Wl.append1 (y := (120 : UInt8)) goodR8 oo rfl rfl rfl rfl rfl (by omega) (by omega) (by simp only [maxLen]; omega) (by omega) rfl rfl fun v2 w2 _ o2 c2 lie => ?_
            (repeat' (first | refine Wl.moveE (by conv => { lhs; whnf }) ?_ | refine Wl.assignE (by conv => { lhs; whnf }) ?_ | refine Wl.nil ?_ | refine Qseq.normal ?_ | refine Wc.region ?_ | refine Qblk.normal ?_ | refine Wl.add rfl rfl (by omega) (by omega) ?_))
            refine Qloop.normal (i + 2, v2, d ++ [(120 : UInt8)]) ⟨rfl, rfl, rfl, trivial⟩ ⟨by dsimp only; omega, by dsimp only; omega, by dsimp only; rw [List.length_append, List.length_singleton]; omega, ?_, o2.mono goodR8.mo (fun k _ e => by rcases e with e | e <;> omega) (fun _ _ e => e), (Chg.trans nn.any c2 fun _ _ e => e).toNew fun k hk e => by have := (oo.lt e).1; omega⟩ (by dsimp only; omega)
            dsimp only
            rw [hu, List.append_assoc]
            rfl
        · have hne : c1 ≠ 120 := by rintro rfl; exact absurd rfl (by assumption)
          rw [hd1, unqR_esc (fun e => hne e.2.1)] at hu
          refine Wl.idxStr rfl rfl (by omega) (by rw [show ((i : Int) + 1).toNat = i + 1 by omega]; exact hc1) ?_
          have nn := n
          have oo := o
          refine Wl.append1 (y := c1) goodR8 oo rfl rfl rfl rfl rfl (by omega) (by omega) (by simp only [maxLen]; omega) (by omega) rfl rfl fun v2 w2 _ o2 c2 lie => ?_
          (repeat' (first | refine Wl.moveE (by conv => { lhs; whnf }) ?_ | refine Wl.assignE (by conv => { lhs; whnf }) ?_ | refine Wl.nil ?_ | refine Qseq.normal ?_ | refine Wc.region ?_ | refine Qblk.normal ?_ | refine Wl.add rfl rfl (by omega) (by omega) ?_))
          refine Qloop.normal (i + 2, v2, d ++ [c1]) ⟨rfl, rfl, rfl, trivial⟩ ⟨by dsimp only; omega, by dsimp only; omega, by dsimp only; rw [List.length_append, List.length_singleton]; omega, ?_, o2.mono goodR8.mo (fun k _ e => by rcases e with e | e <;> omega) (fun _ _ e => e), (Chg.trans nn.any c2 fun _ _ e => e).toNew fun k hk e => by have := (oo.lt e).1; omega⟩ (by dsimp only; omega)
          dsimp only
          rw [hu, List.append_assoc]
          rfl
      · obtain rfl : c = 92 := UInt8.toNat.inj (by show c.toNat = 92; omega)
        obtain ⟨c1, hc1⟩ := get_byte s (k := i + 1) (by omega)
        have hd1 := drop_get hc1
        rw [hd1, unqR_esc (fun e => by have := e.1; rw [← hd1, List.length_drop] at this; omega)] at hu
        refine Wl.idxStr rfl rfl (by omega) (by rw [show ((i : Int) + 1).toNat = i + 1 by omega]; exact hc1) ?_
        have nn := n
        have oo := o
        refine Wl.append1 (y := c1) goodR8 oo rfl rfl rfl rfl rfl (by omega) (by omega) (by simp only [maxLen]; omega) (by omega) rfl rfl fun v2 w2 _ o2 c2 lie => ?_
        (repeat' (first | refine Wl.moveE (by conv => { lhs; whnf }) ?_ | refine Wl.assignE (by conv => { lhs; whnf }) ?_ | refine Wl.nil ?_ | refine Qseq.normal ?_ | refine Wc.region ?_ | refine Qblk.normal ?_ | refine Wl.add rfl rfl (by omega) (by omega) ?_))
        refine Qloop.normal (i + 2, v2, d ++ [c1]) ⟨rfl, rfl, rfl, trivial⟩ ⟨by dsimp only; omega, by dsimp only; omega, by dsimp only; rw [List.length_append, List.length_singleton]; omega, ?_, o2.mono goodR8.mo (fun k _ e => by rcases e with e | e <;> omega) (fun _ _ e => e), (Chg.trans nn.any c2 fun _ _ e => e).toNew fun k hk e => by have := (oo.lt e).1; omega⟩ (by dsimp only; omega)
        dsimp only
        rw [hu, List.append_assoc]
        rfl
      · obtain rfl : c = 92 := UInt8.toNat.inj (by show c.toNat = 92; omega)
        rw [show s.drop (i + 1) = [] from List.drop_eq_nil_of_le (by omega), unqR_last] at hu
        refine Qloop.normal (i + 1, b, d) ⟨rfl, rfl, rfl, trivial⟩ ⟨by dsimp only; omega, by dsimp only; omega, by dsimp only; omega, ?_, o, n⟩ (by dsimp only; omega)
        dsimp only
        rw [hu, show s.drop (i + 1) = [] from List.drop_eq_nil_of_le (by omega), unqR_nil]
    · obtain rfl : c = 34 := UInt8.toNat.inj (by show c.toNat = 34; omega)
      rw [hd, unqR_end] at hu
      refine Wl.bytesStr (o.rd goodR8.mo) rfl ?_
      (repeat' (first | refine Wl.moveE (by conv => { lhs; whnf }) ?_ | refine Wl.lenStr rfl ?_ | refine Wl.add rfl rfl (by omega) (by omega) ?_))
      refine Wl.minI rfl rfl ?_
      rw [hmin]
      (repeat' (first | refine Wl.assignE (by conv => { lhs; whnf }) ?_ | refine Wl.nil ?_ | refine Qseq.normal ?_ | refine Wc.ret ?_))
      refine Qfn.ret2 rfl rfl rfl ⟨_, rfl, ⟨min (i + 1) s.length, by rw [hwr, hu, List.append_nil]; rfl, by omega, ?_, by rw [hwr, hu, List.append_nil]; dsimp only; omega⟩, n⟩
      rw [hwr, hu, Nat.min_eq_left (by omega), List.drop_drop]
  · obtain rfl : i = s.length := by omega
    rw [show s.drop s.length = [] from List.drop_eq_nil_of_le (by omega), unqR_nil] at hu
    refine Wl.bytesStr (o.rd goodR8.mo) rfl ?_
    (repeat' (first | refine Wl.moveE (by conv => { lhs; whnf }) ?_ | refine Wl.lenStr rfl ?_ | refine Wl.add rfl rfl (by omega) (by omega) ?_))
    refine Wl.minI rfl rfl ?_
    rw [hmin]
    (repeat' (first | refine Wl.assignE (by conv => { lhs; whnf }) ?_ | refine Wl.nil ?_ | refine Qseq.normal ?_ | refine Wc.ret ?_))
    refine Qfn.ret2 rfl rfl rfl ⟨_, rfl, ⟨min (s.length + 1) s.length, by rw [hwr, hu, List.append_nil]; rfl, by omega, ?_, by rw [hwr, hu, List.append_nil]; dsimp only; omega⟩, n⟩
    rw [hwr, hu, List.drop_eq_nil_of_le (by omega)]
    rfl
theorem FieldsRef_spec {w : World} {s : List UInt8} (hl : s.length ≤ 90000000) :
    Calls Tryz.prog 11 #[vs s] w (Ret fun r w' => FldR w.heap.size w' s r ∧ New w w') := by
  refine calls_of_Wc Tryz.func11 rfl Tryz.ntmps11 rfl ?_
  (repeat' (first | refine Wl.assignE (by conv => { lhs; whnf }) ?_ | refine Wl.nil ?_ | refine Qseq.normal ?_ | refine Wc.seq ?_ | refine Wc.region ?_ | refine Wc.block ?_))
  refine Wc.loop (σ := Nat × Value × List (List UInt8)) (fun x => [(0, vs s), (4, x.2.1), (5, vi x.1)])
    (fun x W => x.1 ≤ s.length + 1 ∧ x.2.2.length ≤ x.1 ∧ x.2.2.flatten.length ≤ x.1 ∧ fieldsR s = x.2.2 ++ fieldsR (s.drop x.1) ∧ OwnS (one vs) 9 1 (fun k => w.heap.size ≤ k) NoB W x.2.1 x.2.2 ∧ New w W) (fun x => s.length + 1 - x.1) (0, .slice none 0 0, []) ⟨rfl, rfl, rfl, trivial⟩ ⟨Nat.zero_le _, by simp, by simp, by simp, OwnS.nil, Chg.refl _ _⟩ ?_
  rintro ⟨i, v, l⟩ G W ⟨hi, hlen, hlen2, hf, o, n⟩
  dsimp only at hi hlen hlen2 hf o
  simp only [upds]
  have hz := n.size
  (repeat' (first | refine Wl.moveE (by conv => { lhs; whnf }) ?_ | refine Wl.nil ?_ | refine Wl.lenStr rfl ?_ | refine Qseq.normal ?_ | refine Wc.seq ?_ | refine Wc.region ?_ | refine Wc.block ?_ | refine Wc.skip ?_ | refine Wc.exit ?_ | refine Qseq.exit ?_ | refine Qblk.hit ?_ | refine Qloop.exit ?_ | refine Wc.condT rfl ?_ | refine Wc.condF rfl ?_ | refine Wl.lss rfl rfl (fun _ => ?_) (fun _ => ?_)))
  · refine Wl.strFrom rfl rfl (by omega) (by omega) ?_
    rw [Int.toNat_natCast]
    have hne : s.drop i ≠ [] := fun e => by have := congrArg List.length e; rw [List.length_drop, List.length_nil] at this; omega
    refine Wl.call (word_spec (s := s.drop i) (by rw [List.length_drop]; omega)) rfl ?_
    rintro _ w1 ⟨⟨k, rfl, hk, hdr, hwl⟩, n1⟩
    rw [List.length_drop] at hk
    have o1 := o.new (plain_one _) n1
    have hz1 := n1.size
    (repeat' (first | refine Wl.moveE (by conv => { lhs; whnf }) ?_ | refine Wl.assignE (by conv => { lhs; whnf }) ?_ | refine Wl.nil ?_ | refine Wl.extract rfl rfl ?_ | refine Qseq.normal ?_ | refine Wc.seq ?_ | refine Wc.region ?_))
    refine Wl.append1 (y := (wordR (s.drop i)).1) goodVs o1 rfl rfl rfl rfl rfl (by omega) (by omega) (by simp only [maxLen]; omega) (by omega) rfl rfl fun v2 w2 _ o2 c2 lie => ?_
    (repeat' (first | refine Wl.moveE (by conv => { lhs; whnf }) ?_ | refine Wl.assignE (by conv => { lhs; whnf }) ?_ | refine Wl.nil ?_ | refine Qseq.normal ?_ | refine Wc.region ?_ | refine Qblk.normal ?_ | refine Wl.add rfl rfl (by omega) (by omega) ?_))
    refine Qloop.normal (i + k + 1, v2, l ++ [(wordR (s.drop i)).1]) ⟨rfl, rfl, rfl, trivial⟩ ⟨by dsimp only; omega, by dsimp only; rw [List.length_append, List.length_singleton]; omega, by dsimp only; rw [List.flatten_append, List.length_append]; simp only [List.flatten_cons, List.flatten_nil, List.append_nil]; omega, ?_, o2.mono goodVs.mo (fun k _ e => by rcases e with e | e <;> omega) (fun _ _ e => e), (Chg.trans (New.trans n n1).any c2 fun _ _ e => e).toNew fun k hk e => by have := (o1.lt e).1; omega⟩ (by dsimp only; omega)
    dsimp only
    rw [hf, fieldsR, dif_neg hne, ← hdr, List.drop_drop, List.append_assoc, Nat.add_assoc]
    rfl
  · rw [show s.drop i = [] from List.drop_eq_nil_of_le (by omega), fieldsR_nil, List.append_nil] at hf
    have hll := lineW_len l
    refine Wl.call (LineR_spec (o.rd goodVs.mo) (fun x hx => ?_) (by omega)) rfl ?_
    · have := flat_mem_len hx
      omega
    rintro _ w1 ⟨rfl, n1⟩
    (repeat' (first | refine Wl.moveE (by conv => { lhs; whnf }) ?_ | refine Wl.assignE (by conv => { lhs; whnf }) ?_ | refine Wl.nil ?_ | refine Qseq.normal ?_ | refine Wc.seq ?_ | refine Wc.region ?_ | refine Wc.skip ?_ | refine Wc.ret ?_ | refine Qseq.ret ?_ | refine Wc.condT rfl ?_ | refine Wc.condF rfl ?_ | refine Wl.sneq rfl rfl (fun _ => ?_) (fun _ => ?_)))
    · refine Qfn.ret2 rfl rfl rfl ⟨_, rfl, ?_, New.trans n n1⟩
      unfold FldR unlineW
      rw [hf, if_neg (by assumption)]
      rfl
    · refine Qfn.ret2 rfl rfl rfl ⟨_, rfl, ?_, New.trans n n1⟩
      unfold FldR unlineW
      rw [hf, if_pos (by assumption)]
      exact ⟨_, rfl, o.new (plain_one _) n1⟩
end Go.Proofs.YtpnpllghabbhlaaGreatDoor

namespace Go.Proofs.YtpnpllghabbhlaaGreatDoor
open Go Wk
open Go.RowKit (Below)
attribute [local irreducible] Go.Calls

/-- The table of the powers of ten. -/
def Tb (w : World) : Prop := Lib.TabIs Tryz.prog w "internal/strconv.uint64pow10" .u64 Lib.pow10Tab
theorem Tb.new {w w' : World} (h : Tb w) (n : New w w') : Tb w' := by
  unfold Tb Lib.TabIs World.var? at *
  cases hg : Tryz.prog.globalNamed "internal/strconv.uint64pow10" with
  | none => simp [hg] at h
  | some g =>
    simp only [hg, Option.bind_some] at h ⊢
    have hlt : g < w.heap.size := by
      rcases Nat.lt_or_ge g w.heap.size with h' | h'
      · exact h'
      · rw [Array.getElem?_eq_none h'] at h; simp at h
    rw [n.block g hlt id]
    exact h
def decN (n : Nat) : List UInt8 := Lib.decDigits n
def decI (n : Int) : List UInt8 := Lib.itoa n
theorem FormatInt_spec {w : World} {x : Int} (ht : Tb w) (h0 : -9223372036854775808 ≤ x) (h1 : x ≤ 9223372036854775807) :
    Calls Tryz.prog 52 #[vi x, vi 10] w (Ret fun r w' => r = vs (decI x) ∧ New w w') := by
  refine (Tryz.strconv_FormatInt_10 x h0 h1 w ht).mono ?_
  rintro e w' ⟨rfl, k, os, rfl⟩
  exact ⟨_, rfl, rfl, New.ofBelow (Lib.below_grow _ w (Nat.le_refl _) k os)⟩
theorem nDigits_le {u : Nat} (hu : u < 18446744073709551616) : Lib.nDigits u ≤ 20 := by
  rcases Nat.eq_zero_or_pos u with h | h
  · subst h; rw [Lib.nDigits_small (by omega)]; omega
  · have := Lib.numDigits_eq u h hu; split at this <;> omega
theorem decN_len {u : Nat} (hu : u < 18446744073709551616) : (decN u).length ≤ 20 := by unfold decN; rw [Lib.decDigits_length]; exact nDigits_le hu
theorem decI_len {x : Int} (h0 : -9223372036854775808 ≤ x) (h1 : x ≤ 9223372036854775807) : (decI x).length ≤ 21 := by
  unfold decI Lib.itoa
  split
  · have := nDigits_le (u := x.natAbs) (by omega)
    rw [List.length_cons, Lib.decDigits_length]; omega
  · have := nDigits_le (u := x.toNat) (by omega)
    rw [Lib.decDigits_length]; omega
theorem pu_snoc {M : Nat} (c : UInt8) : ∀ (l : List UInt8) (acc a : Nat), Lib.parseUintM M acc l = .ok a → Lib.parseUintM M acc (l ++ [c]) = Lib.parseUintM M a [c]
  | [], acc, a, h => by
    rw [Lib.parseUintM] at h
    cases h; rfl
  | d :: l, acc, a, h => by
    rw [Lib.parseUintM] at h
    rw [List.cons_append, Lib.parseUintM]
    split at h
    · rename_i h1
      rw [if_pos h1]
      split at h
      · cases h
      · rename_i h2
        rw [if_neg h2]
        split at h
        · cases h
        · rename_i h3
          rw [if_neg h3]
          exact pu_snoc c l _ a h
    · cases h
theorem dig_nat {k : Nat} (h : k < 10) : (UInt8.ofNat (48 + k)).toNat = 48 + k := by rw [UInt8.toNat_ofNat']; omega
theorem pu_digit {a k : Nat} (hk : k < 10) (h : a * 10 + k < 18446744073709551616) : Lib.parseUintM 18446744073709551615 a [UInt8.ofNat (48 + k)] = .ok (a * 10 + k) := by
  rw [Lib.parseUintM, dig_nat hk, if_pos (by omega), if_neg (by omega), if_neg (by omega), Lib.parseUintM]
  congr 1; omega
theorem dec_step {n : Nat} (h : ¬ n < 10) : decN n = decN (n / 10) ++ [UInt8.ofNat (48 + n % 10)] := by
  show Lib.decDigits n = Lib.decDigits (n / 10) ++ _
  rw [Lib.decDigits, dif_neg h]
theorem dec_one {n : Nat} (h : n < 10) : decN n = [UInt8.ofNat (48 + n)] := Lib.decDigits_one h
theorem pu_dec : ∀ (f n : Nat), n ≤ f → n < 18446744073709551616 → Lib.parseUintM 18446744073709551615 0 (decN n) = .ok n
  | 0, n, hf, h => by
    obtain rfl : n = 0 := by omega
    rw [dec_one (by omega)]
    exact pu_digit (a := 0) (k := 0) (by omega) (by omega)
  | f + 1, n, hf, h => by
    by_cases h10 : n < 10
    · rw [dec_one h10, pu_digit h10 (by omega)]; congr 1; omega
    · rw [dec_step h10, pu_snoc _ _ _ _ (pu_dec f (n / 10) (by omega) (by omega)), pu_digit (by omega) (by omega)]
      congr 1; omega
theorem dec_dig : ∀ (f n : Nat), n ≤ f → decN n ≠ [] ∧ ∀ b ∈ decN n, 48 ≤ b.toNat ∧ b.toNat ≤ 57
  | 0, n, hf => by
    obtain rfl : n = 0 := by omega
    rw [dec_one (by omega)]
    exact ⟨by simp, fun b hb => by rw [List.mem_singleton.1 hb, dig_nat (by omega)]; omega⟩
  | f + 1, n, hf => by
    by_cases h10 : n < 10
    · rw [dec_one h10]
      exact ⟨by simp, fun b hb => by rw [List.mem_singleton.1 hb, dig_nat h10]; omega⟩
    · rw [dec_step h10]
      refine ⟨by simp, fun b hb => ?_⟩
      rcases List.mem_append.1 hb with hb | hb
      · exact (dec_dig f (n / 10) (by omega)).2 b hb
      · rw [List.mem_singleton.1 hb, dig_nat (by omega)]; omega
theorem parseU {n : Nat} (h : n < 18446744073709551616) : Lib.parseUintB 64 (decN n) = .ok n := by
  unfold Lib.parseUintB
  rw [if_neg (dec_dig n n (Nat.le_refl _)).1]
  exact pu_dec n n (Nat.le_refl _) h
theorem decI_pos (n : Nat) : decI (n : Int) = decN n := Lib.itoa_nonneg n
theorem decI_neg {n : Nat} (h : 1 ≤ n) : decI (-(n : Int)) = 45 :: decN n := Lib.itoa_neg n h
theorem parseI {x : Int} (h0 : -9223372036854775808 ≤ x) (h1 : x ≤ 9223372036854775807) : Lib.parseIntB 64 (decI x) = .ok x := by
  rcases Int.lt_or_le x 0 with hx | hx
  · obtain ⟨n, rfl⟩ : ∃ n : Nat, x = -(n : Int) := ⟨x.natAbs, by omega⟩
    rw [decI_neg (by omega)]
    unfold Lib.parseIntB
    dsimp only
    rw [if_pos (by decide), parseU (by omega)]
    dsimp only
    rw [if_neg (by simp), if_neg (by simp; omega), if_pos (show UInt8.toNat 45 = 45 by decide)]
  · obtain ⟨n, rfl⟩ : ∃ n : Nat, x = (n : Int) := ⟨x.natAbs, by omega⟩
    rw [decI_pos]
    obtain ⟨hne, hd⟩ := dec_dig n n (Nat.le_refl _)
    have hp := parseU (n := n) (by omega)
    cases hl : decN n with
    | nil => exact absurd hl hne
    | cons c r =>
      have hc := hd c (by rw [hl]; simp)
      rw [hl] at hp
      unfold Lib.parseIntB
      dsimp only
      rw [if_neg (by omega), hp]
      dsimp only
      rw [if_neg (by simp; omega), if_neg (by simp; omega), if_neg (by omega)]
theorem decN_inj {m n : Nat} (hm : m < 18446744073709551616) (hn : n < 18446744073709551616) (h : decN m = decN n) : m = n := by
  have h1 := parseU hm
  rw [h, parseU hn] at h1
  cases h1; rfl
theorem decI_inj {x y : Int} (hx0 : -9223372036854775808 ≤ x) (hx1 : x ≤ 9223372036854775807) (hy0 : -9223372036854775808 ≤ y) (hy1 : y ≤ 9223372036854775807) (h : decI x = decI y) : x = y := by
  have h1 := parseI hx0 hx1
  rw [h, parseI hy0 hy1] at h1
  cases h1; rfl
/-- The number that a text is. -/
def numM (s : List UInt8) : Option Int := match Lib.parseIntB 64 s with
  | .ok n => if decI n = s then some n else none
  | _ => none
theorem numM_dec {x : Int} (h0 : -9223372036854775808 ≤ x) (h1 : x ≤ 9223372036854775807) : numM (decI x) = some x := by
  unfold numM
  rw [parseI h0 h1]
  exact if_pos rfl
theorem new_bytes {w : World} {e : TypeId} {s : ByteArray} : New w (Lib.bytesWorld w e s) :=
  ⟨rfl, rfl, rfl, by rw [Lib.bytesWorld_size]; omega, fun k hk _ => Lib.bytesWorld_at_old w e _ k hk⟩
theorem ParseInt_spec {w : World} {s : List UInt8} (hE : ErrV w) (hl : s.length ≤ 100000000) :
    Calls Tryz.prog 51 #[vs s, vi 10, vi 64] w (Ret fun r w' => (∃ (n : Int) (e : Value), r = .tuple #[vi n, e] ∧ -9223372036854775808 ≤ n ∧ n ≤ 9223372036854775807 ∧ ((e = .nilIface ∧ numM s = if decI n = s then some n else none) ∨ ((∃ t v, e = .iface t v) ∧ numM s = none ∧ decI n ≠ s))) ∧ New w w') := by
  have hs : (⟨s.toArray⟩ : ByteArray).size = s.length := by simp [ByteArray.size]
  obtain ⟨_, te, pe, h0⟩ := hE _ (.inl rfl)
  obtain ⟨_, te1, pe1, h1⟩ := hE _ (.inr rfl)
  cases hp : Lib.parseIntB 64 s with
  | ok u =>
    refine (Tryz.strconv_ParseInt_10_at64_ok ⟨s.toArray⟩ (by rw [hs]; omega) u hp w).mono ?_
    rintro e w' ⟨rfl, hw⟩
    have hb := Lib.parseIntB_bounds hp
    refine ⟨_, rfl, ⟨u, _, rfl, by simp at hb; omega, by simp at hb; omega, .inl ⟨rfl, ?_⟩⟩, ?_⟩
    · unfold numM; rw [hp]
    · rcases hw with rfl | ⟨t, rfl⟩
      · exact Chg.refl _ _
      · exact new_bytes
  | «syntax» =>
    refine (Tryz.strconv_ParseInt_10_at64_syntax ⟨s.toArray⟩ (by rw [hs]; omega) hp _ w h0 (.inr ⟨_, _, rfl⟩)).mono ?_
    rintro e w' ⟨N, rfl, _, _, hb⟩
    refine ⟨_, rfl, ⟨0, _, rfl, by omega, by omega, .inr ⟨⟨_, _, rfl⟩, by unfold numM; rw [hp], fun e => ?_⟩⟩, New.ofBelow hb⟩
    rw [← e, parseI (by omega) (by omega)] at hp; cases hp
  | range =>
    refine (Tryz.strconv_ParseInt_10_at64_range ⟨s.toArray⟩ (by rw [hs]; omega) hp _ w h1 (.inr ⟨_, _, rfl⟩)).mono ?_
    rintro e w' ⟨N, rfl, _, _, hb⟩
    have hb0 : -9223372036854775808 ≤ Lib.intSat 64 s ∧ Lib.intSat 64 s ≤ 9223372036854775807 := by
      unfold Lib.intSat; repeat' split
      all_goals decide
    refine ⟨_, rfl, ⟨Lib.intSat 64 s, _, rfl, hb0.1, hb0.2, .inr ⟨⟨_, _, rfl⟩, by unfold numM; rw [hp], fun e => ?_⟩⟩, New.ofBelow hb⟩
    rw [← e, parseI hb0.1 hb0.2] at hp; cases hp
def NumR (s : List UInt8) (r : Value) : Prop := match numM s with
  | none => r = .tuple #[vi 0, vi 11]
  | some n => r = .tuple #[vi n, vi 0]
theorem NumberP_spec {w : World} {s : List UInt8} (hE : ErrV w) (ht : Tb w) (hl : s.length ≤ 100000000) :
    Calls Tryz.prog 45 #[vs s] w (Ret fun r w' => NumR s r ∧ New w w') := by
  refine calls_of_Wc Tryz.func45 rfl Tryz.ntmps45 rfl ?_
  (repeat' (first | refine Wl.moveE (by conv => { lhs; whnf }) ?_ | refine Wl.assignE (by conv => { lhs; whnf }) ?_ | refine Wl.nil ?_ | refine Qseq.normal ?_ | refine Wc.seq ?_ | refine Wc.region ?_))
  refine Wl.call (ParseInt_spec hE hl) rfl ?_
  rintro _ w1 ⟨⟨n, e, rfl, h0, h1, h⟩, n1⟩
  unfold NumR
  rcases h with ⟨rfl, hn⟩ | ⟨⟨t, v, rfl⟩, hn, hne⟩
  · rw [hn]
    (repeat' (first | refine Wl.moveE (by conv => { lhs; whnf }) ?_ | refine Wl.assignE (by conv => { lhs; whnf }) ?_ | refine Wl.nil ?_ | refine Wl.extract rfl rfl ?_ | refine Qseq.normal ?_ | refine Wc.seq ?_ | refine Wc.region ?_))
    refine Wl.ineNil rfl ?_
    (repeat' (first | refine Wl.moveE (by conv => { lhs; whnf }) ?_ | refine Wl.guardY rfl rfl ?_))
    refine Wl.call (FormatInt_spec (ht.new n1) h0 h1) rfl ?_
    rintro _ w2 ⟨rfl, n2⟩
    (repeat' (first | refine Wl.moveE (by conv => { lhs; whnf }) ?_ | refine Wl.guardY rfl rfl ?_))
    refine Wl.sneq rfl rfl (fun hd => ?_) (fun hd => ?_)
    · (repeat' (first | refine Wl.assignE (by conv => { lhs; whnf }) ?_ | refine Wl.nil ?_ | refine Wl.pickFE rfl (by conv => { lhs; whnf }) ?_ | refine Qseq.normal ?_ | refine Wc.seq ?_ | refine Wc.region ?_ | refine Wc.ret ?_ | refine Qseq.ret ?_ | refine Wc.condT rfl ?_))
      refine Qfn.ret2 rfl rfl rfl ⟨_, rfl, ?_, New.trans n1 n2⟩
      rw [if_neg hd]; rfl
    · (repeat' (first | refine Wl.moveE (by conv => { lhs; whnf }) ?_ | refine Wl.assignE (by conv => { lhs; whnf }) ?_ | refine Wl.nil ?_ | refine Wl.pickFE rfl (by conv => { lhs; whnf }) ?_ | refine Qseq.normal ?_ | refine Wc.seq ?_ | refine Wc.region ?_ | refine Wc.skip ?_ | refine Wc.ret ?_ | refine Wc.condF rfl ?_))
      refine Qfn.ret2 rfl rfl rfl ⟨_, rfl, ?_, New.trans n1 n2⟩
      rw [if_pos hd]; rfl
  · rw [hn]
    (repeat' (first | refine Wl.moveE (by conv => { lhs; whnf }) ?_ | refine Wl.assignE (by conv => { lhs; whnf }) ?_ | refine Wl.nil ?_ | refine Wl.extract rfl rfl ?_ | refine Qseq.normal ?_ | refine Wc.seq ?_ | refine Wc.region ?_))
    refine Wl.ineHeld rfl ?_
    (repeat' (first | refine Wl.moveE (by conv => { lhs; whnf }) ?_ | refine Wl.assignE (by conv => { lhs; whnf }) ?_ | refine Wl.nil ?_ | refine Wl.guardN rfl rfl ?_ | refine Wl.pickTE rfl (by conv => { lhs; whnf }) ?_ | refine Qseq.normal ?_ | refine Wc.seq ?_ | refine Wc.region ?_ | refine Wc.ret ?_ | refine Qseq.ret ?_ | refine Wc.condT rfl ?_))
    exact Qfn.ret2 rfl rfl rfl ⟨_, rfl, rfl, n1⟩
theorem NumberR_spec {w : World} {s : List UInt8} (hE : ErrV w) (ht : Tb w) (hl : s.length ≤ 100000000) :
    Calls Tryz.prog 39 #[vs s] w (Ret fun r w' => NumR s r ∧ New w w') := by
  refine calls_of_Wc Tryz.func39 rfl Tryz.ntmps39 rfl ?_
  (repeat' (first | refine Wl.moveE (by conv => { lhs; whnf }) ?_ | refine Wl.assignE (by conv => { lhs; whnf }) ?_ | refine Wl.nil ?_ | refine Qseq.normal ?_ | refine Wc.seq ?_ | refine Wc.region ?_))
  refine Wl.call (ParseInt_spec hE hl) rfl ?_
  rintro _ w1 ⟨⟨n, e, rfl, h0, h1, h⟩, n1⟩
  unfold NumR
  have hn : numM s = if decI n = s then some n else none := by
    rcases h with ⟨rfl, hn⟩ | ⟨⟨t, v, rfl⟩, hn, hne⟩
    · exact hn
    · rw [hn, if_neg hne]
  rw [hn]
  clear h hn
  (repeat' (first | refine Wl.moveE (by conv => { lhs; whnf }) ?_ | refine Wl.assignE (by conv => { lhs; whnf }) ?_ | refine Wl.nil ?_ | refine Wl.extract rfl rfl ?_ | refine Qseq.normal ?_ | refine Wc.seq ?_ | refine Wc.region ?_))
  refine Wl.call (FormatInt_spec (ht.new n1) h0 h1) rfl ?_
  rintro _ w2 ⟨rfl, n2⟩
  (repeat' (refine Wl.moveE (by conv => { lhs; whnf }) ?_))
  refine Wl.sneq rfl rfl (fun hd => ?_) (fun hd => ?_)
  · (repeat' (first | refine Wl.assignE (by conv => { lhs; whnf }) ?_ | refine Wl.nil ?_ | refine Qseq.normal ?_ | refine Wc.seq ?_ | refine Wc.region ?_ | refine Wc.ret ?_ | refine Qseq.ret ?_ | refine Wc.condT rfl ?_))
    refine Qfn.ret2 rfl rfl rfl ⟨_, rfl, ?_, New.trans n1 n2⟩
    rw [if_neg hd]; rfl
  · (repeat' (first | refine Wl.moveE (by conv => { lhs; whnf }) ?_ | refine Wl.assignE (by conv => { lhs; whnf }) ?_ | refine Wl.nil ?_ | refine Qseq.normal ?_ | refine Wc.seq ?_ | refine Wc.region ?_ | refine Wc.skip ?_ | refine Wc.ret ?_ | refine Wc.condF rfl ?_))
    refine Qfn.ret2 rfl rfl rfl ⟨_, rfl, ?_, New.trans n1 n2⟩
    rw [if_pos hd]; rfl
end Go.Proofs.YtpnpllghabbhlaaGreatDoor

namespace Go.Proofs.YtpnpllghabbhlaaGreatDoor
open Go Wk
open Go.RowKit (Below)
attribute [local irreducible] Go.Calls

instance undA : Und Tryz.prog 86 (.array 256 4) := ⟨Tryz.underlying86⟩
instance eltA : ElT Tryz.prog 86 256 256 true (.agg (Array.replicate 256 (.bool false))) := ElT.mk' (by kernel_rfl) (by kernel_rfl) (by kernel_rfl)
/-- The set of the digits lies at b. -/
def SetAt (w : World) (b : Nat) : Prop := ∀ x : UInt8, w.cell? ⟨b, x.toNat, none⟩ = some (.bool (hexS.contains x))
theorem contains_spec {w : World} {b : Nat} {x : UInt8} (h : SetAt w b) : Calls Tryz.prog 78 #[.pointer (some ⟨b, 0, none⟩), .int .u8 x.toNat] w (Ret fun r w' => r = .bool (hexS.contains x) ∧ w = w') := by
  refine (Tryz.asciiSet_contains b x _ w (h x)).mono ?_
  rintro e w' ⟨rfl, rfl⟩
  exact ⟨_, rfl, rfl, rfl⟩
theorem left_spec {w : World} {b : Nat} {s : List UInt8} (h : SetAt w b) (hl : s.length ≤ 100000000) : Calls Tryz.prog 62 #[vs s, .pointer (some ⟨b, 0, none⟩)] w (Ret fun r w' => r = vs (s.dropWhile fun c => hexS.contains c) ∧ w = w') := by
  refine calls_of_Wc Tryz.func62 rfl Tryz.ntmps62 rfl ?_
  (repeat' (first | refine Wl.assignE (by conv => { lhs; whnf }) ?_ | refine Wl.nil ?_ | refine Qseq.normal ?_ | refine Wc.seq ?_ | refine Wc.region ?_ | refine Wc.block ?_))
  refine Wc.loop (σ := List UInt8) (fun u => [(0, vs u), (1, .pointer (some ⟨b, 0, none⟩))]) (fun u W => u.length ≤ s.length ∧ (u.dropWhile fun c => hexS.contains c) = (s.dropWhile fun c => hexS.contains c) ∧ w = W) (fun u => u.length) s ⟨rfl, rfl, trivial⟩ ⟨Nat.le_refl _, rfl, rfl⟩ ?_
  rintro u G _ ⟨hu, hd, rfl⟩
  simp only [upds]
  (repeat' (first | refine Wl.moveE (by conv => { lhs; whnf }) ?_ | refine Wl.assignE (by conv => { lhs; whnf }) ?_ | refine Wl.nil ?_ | refine Wl.lenStr rfl ?_ | refine Qseq.normal ?_ | refine Wc.seq ?_ | refine Wc.region ?_ | refine Wc.block ?_ | refine Wc.skip ?_ | refine Wc.exit ?_ | refine Wc.ret ?_ | refine Qseq.exit ?_ | refine Qblk.hit ?_ | refine Qloop.exit ?_ | refine Wc.condT rfl ?_ | refine Wc.condF rfl ?_ | refine Wl.gtr rfl rfl (fun _ => ?_) (fun _ => ?_)))
  · cases u with
    | nil => exfalso; have : (0 : Int) < ((([] : List UInt8).length : Nat) : Int) := by assumption
             simp at this
    | cons c u =>
      refine Wl.idxStr (j := 0) (b := c) rfl rfl (by omega) rfl ?_
      refine Wl.call (contains_spec (x := c) h) rfl ?_
      rintro _ _ ⟨rfl, rfl⟩
      cases hc : hexS.contains c
      · (repeat' (first | refine Wl.moveE (by conv => { lhs; whnf }) ?_ | refine Wl.assignE (by conv => { lhs; whnf }) ?_ | refine Wl.nil ?_ | refine Wl.notB rfl ?_ | refine Qseq.normal ?_ | refine Wc.seq ?_ | refine Wc.region ?_ | refine Wc.exit ?_ | refine Wc.ret ?_ | refine Qseq.exit ?_ | refine Qblk.hit ?_ | refine Qblk.miss rfl ?_ | refine Qloop.exit ?_ | refine Wc.condT rfl ?_))
        refine Qfn.ret1 rfl rfl ⟨_, rfl, ?_, rfl⟩
        rw [← hd, List.dropWhile_cons, hc]; rfl
      · (repeat' (first | refine Wl.moveE (by conv => { lhs; whnf }) ?_ | refine Wl.nil ?_ | refine Wl.notB rfl ?_ | refine Qseq.normal ?_ | refine Wc.region ?_ | refine Wc.skip ?_ | refine Wc.condF rfl ?_))
        refine Wl.strFrom rfl rfl (by omega) (by simp only [List.length_cons]; omega) ?_
        (repeat' (first | refine Wl.assignE (by conv => { lhs; whnf }) ?_ | refine Wl.nil ?_ | refine Qblk.normal ?_))
        refine Qloop.normal u ⟨rfl, rfl, trivial⟩ ⟨by rw [List.length_cons] at hu; omega, ?_, rfl⟩ (by simp only [List.length_cons]; omega)
        rw [← hd, List.dropWhile_cons, hc]; rfl
  · cases u with
    | nil => exact Qfn.ret1 rfl rfl ⟨_, rfl, by rw [← hd]; rfl, rfl⟩
    | cons c u => exfalso; have : (((c :: u).length : Nat) : Int) ≤ 0 := by assumption
                  simp only [List.length_cons] at this; omega
theorem right_spec {w : World} {b : Nat} {s : List UInt8} (h : SetAt w b) (hl : s.length ≤ 100000000) : Calls Tryz.prog 63 #[vs s, .pointer (some ⟨b, 0, none⟩)] w (Ret fun r w' => (∃ k, r = vs (s.take k) ∧ k ≤ s.length ∧ (∀ c ∈ s.drop k, hexS.contains c = true)) ∧ w = w') := by
  refine calls_of_Wc Tryz.func63 rfl Tryz.ntmps63 rfl ?_
  (repeat' (first | refine Wl.assignE (by conv => { lhs; whnf }) ?_ | refine Wl.nil ?_ | refine Qseq.normal ?_ | refine Wc.seq ?_ | refine Wc.region ?_ | refine Wc.block ?_))
  refine Wc.loop (σ := Nat) (fun k => [(0, vs (s.take k)), (1, .pointer (some ⟨b, 0, none⟩))]) (fun k W => k ≤ s.length ∧ (∀ c ∈ s.drop k, hexS.contains c = true) ∧ w = W) (fun k => k) s.length ⟨by rw [List.take_length]; rfl, rfl, trivial⟩ ⟨Nat.le_refl _, by simp, rfl⟩ ?_
  rintro k G _ ⟨hk, hd, rfl⟩
  simp only [upds]
  have hlk : (s.take k).length = k := by rw [List.length_take]; omega
  (repeat' (first | refine Wl.moveE (by conv => { lhs; whnf }) ?_ | refine Wl.assignE (by conv => { lhs; whnf }) ?_ | refine Wl.nil ?_ | refine Wl.lenStr rfl ?_ | refine Qseq.normal ?_ | refine Wc.seq ?_ | refine Wc.region ?_ | refine Wc.block ?_ | refine Wc.skip ?_ | refine Wc.exit ?_ | refine Wc.ret ?_ | refine Qseq.exit ?_ | refine Qblk.hit ?_ | refine Qloop.exit ?_ | refine Wc.condT rfl ?_ | refine Wc.condF rfl ?_ | refine Wl.sub rfl rfl (by omega) (by omega) ?_ | refine Wl.gtr rfl rfl (fun _ => ?_) (fun _ => ?_)))
  · obtain ⟨c, hc⟩ := get_byte s (k := k - 1) (by omega)
    have hc' : (s.take k)[k - 1]? = some c := by rw [List.getElem?_take_of_lt (by omega)]; exact hc
    rw [hlk]
    refine Wl.idxStr rfl rfl (by omega) (by rw [show ((k : Int) - 1).toNat = k - 1 by omega]; exact hc') ?_
    refine Wl.call (contains_spec (x := c) h) rfl ?_
    rintro _ _ ⟨rfl, rfl⟩
    cases hcc : hexS.contains c
    · (repeat' (first | refine Wl.moveE (by conv => { lhs; whnf }) ?_ | refine Wl.assignE (by conv => { lhs; whnf }) ?_ | refine Wl.nil ?_ | refine Wl.notB rfl ?_ | refine Qseq.normal ?_ | refine Wc.seq ?_ | refine Wc.region ?_ | refine Wc.exit ?_ | refine Wc.ret ?_ | refine Qseq.exit ?_ | refine Qblk.hit ?_ | refine Qblk.miss rfl ?_ | refine Qloop.exit ?_ | refine Wc.condT rfl ?_))
      exact Qfn.ret1 rfl rfl ⟨_, rfl, ⟨k, rfl, hk, hd⟩, rfl⟩
    · (repeat' (first | refine Wl.moveE (by conv => { lhs; whnf }) ?_ | refine Wl.nil ?_ | refine Wl.notB rfl ?_ | refine Wl.lenStr rfl ?_ | refine Qseq.normal ?_ | refine Wc.region ?_ | refine Wc.skip ?_ | refine Wc.condF rfl ?_ | refine Wl.sub rfl rfl (by omega) (by omega) ?_))
      rw [hlk]
      refine Wl.strTo rfl rfl (by omega) (by omega) ?_
      rw [show ((k : Int) - 1).toNat = k - 1 by omega, List.take_take, Nat.min_eq_left (by omega)]
      (repeat' (first | refine Wl.assignE (by conv => { lhs; whnf }) ?_ | refine Wl.nil ?_ | refine Qblk.normal ?_))
      refine Qloop.normal (k - 1) ⟨rfl, rfl, trivial⟩ ⟨by omega, ?_, rfl⟩ (by omega)
      rw [drop_get hc, show k - 1 + 1 = k by omega]
      intro x hx
      rcases List.mem_cons.1 hx with rfl | hx
      · exact hcc
      · exact hd x hx
  · exact Qfn.ret1 rfl rfl ⟨_, rfl, ⟨k, rfl, hk, hd⟩, rfl⟩
theorem dropW_nil {p : UInt8 → Bool} {l : List UInt8} : l.dropWhile p = [] ↔ ∀ c ∈ l, p c = true := by
  induction l with
  | nil => simp
  | cons a l ih =>
    rw [List.dropWhile_cons]
    by_cases h : p a = true
    · rw [if_pos h, ih]; simp [h]
    · rw [if_neg h]; simp [h]
theorem Trim_spec {w : World} {s : List UInt8} (hs : s ≠ []) (hl : s.length ≤ 100000000) : Calls Tryz.prog 46 #[vs s, vs hexS] w (Ret fun r w' => (∃ u, r = vs u ∧ (u = [] ↔ s.all (fun c => hexS.contains c) = true)) ∧ New w w') := by
  refine calls_of_Wc Tryz.func46 rfl Tryz.ntmps46 rfl ?_
  (repeat' (first | refine Wl.moveE (by conv => { lhs; whnf }) ?_ | refine Wl.assignE (by conv => { lhs; whnf }) ?_ | refine Wl.nil ?_ | refine Qseq.normal ?_ | refine Wc.seq ?_ | refine Wc.region ?_))
  refine Wl.seql rfl rfl (fun h => absurd h hs) fun _ => ?_
  (repeat' (first | refine Wl.moveE (by conv => { lhs; whnf }) ?_ | refine Wl.guardY rfl rfl ?_))
  refine Wl.seql (a := hexS) (b := []) rfl rfl (fun h => absurd h (by decide)) fun _ => ?_
  (repeat' (first | refine Wl.moveE (by conv => { lhs; whnf }) ?_ | refine Wl.nil ?_ | refine Wl.pickFE rfl (by conv => { lhs; whnf }) ?_ | refine Wl.lenStr rfl ?_ | refine Qseq.normal ?_ | refine Wc.seq ?_ | refine Wc.region ?_ | refine Wc.skip ?_ | refine Wc.condF rfl ?_))
  refine Wl.eql rfl rfl (fun h => absurd h (by decide)) fun _ => ?_
  (repeat' (first | refine Wl.moveE (by conv => { lhs; whnf }) ?_ | refine Wl.nil ?_ | refine Wl.guardN rfl rfl ?_ | refine Wl.pickFE rfl (by conv => { lhs; whnf }) ?_ | refine Qseq.normal ?_ | refine Wc.seq ?_ | refine Wc.region ?_ | refine Wc.skip ?_ | refine Wc.condF rfl ?_))
  obtain ⟨A, hA⟩ : ∃ A, A = Lib.setCells hexS := ⟨_, rfl⟩
  refine Wl.call (φ := fun r w' => r = .tuple #[.agg A, .bool true] ∧ New w w') ((Tryz.strings_makeASCIISet (fun w => eltA.zeroValue w) ⟨hexS.toArray⟩ w (by decide) (fun j b h => (by decide : ∀ b ∈ hexS, b.toNat < 128) b (List.mem_of_getElem? h))).mono ?_) rfl ?_
  · rintro e w' ⟨rfl, rfl⟩
    exact ⟨_, rfl, by rw [hA], Chg.alloc _ _ _⟩
  rintro _ w1 ⟨rfl, n1⟩
  have hsz : A.size = 256 := by rw [hA]; exact Lib.setCells_size hexS
  (repeat' (first | refine Wl.moveE (by conv => { lhs; whnf }) ?_ | refine Wl.extract rfl rfl ?_))
  refine Wl.alloc fun w2 b2 n2 s2 => ?_
  replace b2 : Bk w2 w1.heap.size 86 (List.replicate 256 (.bool false)) := by
    have := b2
    rwa [show (Value.agg (Array.replicate 256 (Value.bool false))).cells.toList = List.replicate 256 (.bool false) from Array.toList_replicate ..] at this
  have hone : ∀ c ∈ A.toList, c.oneCell' = true := by
    have := Lib.setCells_one hexS
    rw [← hA] at this
    rw [← Array.all_toList] at this
    exact fun c hc => List.all_eq_true.1 this c hc
  refine Wl.storeB (u := .agg A) (new := A.toList) b2 rfl rfl (by show A = _; simp) (by rw [Array.length_toList, hsz]) (by rw [List.length_replicate]; omega) hone fun w3 b3 c3 s3 => ?_
  have hset : SetAt w3 w1.heap.size := by
    intro x
    refine b3.cell ?_
    unfold setRange
    rw [List.take_zero, List.nil_append, Array.length_toList, hsz, Nat.zero_add, List.drop_eq_nil_of_le (by rw [List.length_replicate]; omega), List.append_nil, Array.getElem?_toList]
    rw [hA]
    exact Lib.setCells_at hexS x
  have n13 : New w1 w3 := (Chg.trans n2.any c3 fun _ _ e => e).toNew fun k hk e => by omega
  have n03 := New.trans n1 n13
  (repeat' (first | refine Wl.moveE (by conv => { lhs; whnf }) ?_ | refine Wl.assignE (by conv => { lhs; whnf }) ?_ | refine Wl.nil ?_ | refine Qseq.normal ?_ | refine Wc.seq ?_ | refine Wc.region ?_ | refine Wc.condT rfl ?_))
  refine Wl.call (right_spec hset hl) rfl ?_
  rintro _ _ ⟨⟨k, rfl, hk, hr⟩, rfl⟩
  skip
  refine Wl.call (left_spec (s := s.take k) hset (by rw [List.length_take]; omega)) rfl ?_
  rintro _ _ ⟨rfl, rfl⟩
  (repeat' (first | refine Wl.assignE (by conv => { lhs; whnf }) ?_ | refine Wl.nil ?_ | refine Qseq.normal ?_ | refine Wc.ret ?_ | refine Qseq.ret ?_))
  refine Qfn.ret1 rfl rfl ⟨_, rfl, ⟨_, rfl, ?_⟩, n03⟩
  constructor
  · intro e
    have h1 : ∀ c ∈ s.take k, hexS.contains c = true := by
      have := dropW_nil.1 e
      exact fun c hc => this c hc
    rw [List.all_eq_true]
    intro c hc
    rw [← List.take_append_drop k s] at hc
    rcases List.mem_append.1 hc with h | h
    · exact h1 c h
    · exact hr c h
  · intro e
    refine dropW_nil.2 fun c hc => ?_
    exact List.all_eq_true.1 e c (List.mem_of_mem_take hc)
theorem contains_hexl (c : UInt8) : hexS.contains c = (hexl c).isSome := by
  have h : ∀ k : Fin 256, hexS.contains (UInt8.ofNat k.val) = (hexl (UInt8.ofNat k.val)).isSome := by decide +kernel
  have := h ⟨c.toNat, c.toNat_lt⟩
  simpa using this
/-- Is an argument of a letter's form? -/
def fitsM (c : UInt8) (s : List UInt8) : Bool := if c = 110 then (numM s).isSome else if c = 120 then hexM s else true
theorem num_ok {s : List UInt8} {r : Value} (h : NumR s r) : ∃ (n e : Int), r = .tuple #[vi n, vi e] ∧ ((numM s).isSome = decide (e = 0)) := by
  unfold NumR at h
  cases hn : numM s with
  | none => rw [hn] at h; exact ⟨0, 11, h, rfl⟩
  | some n => rw [hn] at h; exact ⟨n, 0, h, rfl⟩
theorem fitsP_spec {w : World} {c : UInt8} {s : List UInt8} (hE : ErrV w) (ht : Tb w) (hl : s.length ≤ 100000000) :
    Calls Tryz.prog 30 #[.int .u8 c.toNat, vs s] w (Ret fun r w' => r = .bool (fitsM c s) ∧ New w w') := by
  refine calls_of_Wc Tryz.func30 rfl Tryz.ntmps30 rfl ?_
  (repeat' (first | refine Wl.moveE (by conv => { lhs; whnf }) ?_ | refine Wl.assignE (by conv => { lhs; whnf }) ?_ | refine Wl.nil ?_ | refine Qseq.normal ?_ | refine Wc.seq ?_ | refine Wc.region ?_ | refine Wc.block ?_))
  refine Wl.eql rfl rfl (fun h => ?_) (fun h => ?_)
  · obtain rfl : c = 110 := UInt8.toNat.inj (by show c.toNat = 110; omega)
    (repeat' (first | refine Wl.moveE (by conv => { lhs; whnf }) ?_ | refine Wl.assignE (by conv => { lhs; whnf }) ?_ | refine Wl.nil ?_ | refine Qseq.normal ?_ | refine Wc.seq ?_ | refine Wc.region ?_ | refine Wc.condT rfl ?_))
    refine Wl.call (NumberP_spec hE ht hl) rfl ?_
    rintro r w1 ⟨hr, n1⟩
    obtain ⟨n, e, rfl, he⟩ := num_ok hr
    have hf : fitsM 110 s = decide (e = 0) := by rw [← he]; rfl
    rw [hf]
    (repeat' (first | refine Wl.moveE (by conv => { lhs; whnf }) ?_ | refine Wl.assignE (by conv => { lhs; whnf }) ?_ | refine Wl.nil ?_ | refine Wl.extract rfl rfl ?_ | refine Qseq.normal ?_ | refine Wc.seq ?_ | refine Wc.region ?_))
    refine Wl.eql rfl rfl (fun h => ?_) (fun h => ?_)
    · (repeat' (first | refine Wl.assignE (by conv => { lhs; whnf }) ?_ | refine Wl.nil ?_ | refine Qseq.normal ?_ | refine Wc.ret ?_ | refine Qseq.ret ?_ | refine Qblk.ret ?_))
      exact Qfn.ret1 rfl rfl ⟨_, rfl, by rw [decide_eq_true h]; rfl, n1⟩
    · (repeat' (first | refine Wl.assignE (by conv => { lhs; whnf }) ?_ | refine Wl.nil ?_ | refine Qseq.normal ?_ | refine Wc.ret ?_ | refine Qseq.ret ?_ | refine Qblk.ret ?_))
      exact Qfn.ret1 rfl rfl ⟨_, rfl, by rw [decide_eq_false h]; rfl, n1⟩
  have h1 : c ≠ 110 := by rintro rfl; exact h rfl
  (repeat' (first | refine Wl.assignE (by conv => { lhs; whnf }) ?_ | refine Wl.nil ?_ | refine Qseq.normal ?_ | refine Wc.seq ?_ | refine Wc.region ?_ | refine Wc.condF rfl ?_))
  refine Wl.eql rfl rfl (fun h => ?_) (fun h => ?_)
  · obtain rfl : c = 120 := UInt8.toNat.inj (by show c.toNat = 120; omega)
    have hf : fitsM 120 s = hexM s := rfl
    rw [hf]
    clear h h1 hf
    have ht2 : (s.length : Int).tmod 2 = ((s.length % 2 : Nat) : Int) := rfl
    (repeat' (first | refine Wl.moveE (by conv => { lhs; whnf }) ?_ | refine Wl.assignE (by conv => { lhs; whnf }) ?_ | refine Wl.nil ?_ | refine Qseq.normal ?_ | refine Wc.seq ?_ | refine Wc.region ?_ | refine Wc.condT rfl ?_))
    refine Wl.seql rfl rfl (fun h => ?_) (fun h => ?_)
    · (repeat' (first | refine Wl.moveE (by conv => { lhs; whnf }) ?_ | refine Wl.assignE (by conv => { lhs; whnf }) ?_ | refine Wl.nil ?_ | refine Wl.guardN rfl rfl ?_ | refine Wl.guardU rfl ?_ | refine Wl.pickTE rfl (by conv => { lhs; whnf }) ?_ | refine Qseq.normal ?_ | refine Wc.ret ?_ | refine Qseq.ret ?_ | refine Qblk.ret ?_))
      exact Qfn.ret1 rfl rfl ⟨_, rfl, by rw [h]; rfl, Chg.refl _ _⟩
    have hd : decide (s = [45]) = false := decide_eq_false h
    (repeat' (first | refine Wl.moveE (by conv => { lhs; whnf }) ?_ | refine Wl.guardY rfl rfl ?_ | refine Wl.lenStr rfl ?_))
    refine Wl.geq rfl rfl (fun h2 => ?_) (fun h2 => ?_)
    · (repeat' (first | refine Wl.moveE (by conv => { lhs; whnf }) ?_ | refine Wl.guardY rfl rfl ?_ | refine Wl.lenStr rfl ?_))
      refine Wl.remW rfl rfl (by decide) ?_
      rw [ht2]
      (repeat' (refine Wl.guardY rfl rfl ?_))
      refine Wl.eql rfl rfl (fun h3 => ?_) (fun h3 => ?_)
      · have hne : s ≠ [] := fun e => by rw [e] at h2; exact absurd h2 (by decide)
        have hm : hexM s = s.all (fun c => hexS.contains c) := by
          unfold hexM
          rw [hd, decide_eq_true (show 2 ≤ s.length by omega), decide_eq_true (show s.length % 2 = 0 by omega), Bool.false_or, Bool.and_self, Bool.and_true]
          congr 1
          funext c
          exact (contains_hexl c).symm
        rw [hm]
        (repeat' (first | refine Wl.moveE (by conv => { lhs; whnf }) ?_ | refine Wl.guardY rfl rfl ?_ | refine Wl.pickTE rfl (by conv => { lhs; whnf }) ?_))
        refine Wl.call (Trim_spec hne hl) rfl ?_
        rintro _ w1 ⟨⟨u, rfl, hu⟩, n1⟩
        (repeat' (refine Wl.guardY rfl rfl ?_))
        refine Wl.seql rfl rfl (fun h4 => ?_) (fun h4 => ?_)
        · (repeat' (first | refine Wl.assignE (by conv => { lhs; whnf }) ?_ | refine Wl.nil ?_ | refine Wl.guardY rfl rfl ?_ | refine Wl.pickTE rfl (by conv => { lhs; whnf }) ?_ | refine Wl.pickFE rfl (by conv => { lhs; whnf }) ?_ | refine Qseq.normal ?_ | refine Wc.ret ?_ | refine Qseq.ret ?_ | refine Qblk.ret ?_))
          exact Qfn.ret1 rfl rfl ⟨_, rfl, by rw [hu.1 h4]; rfl, n1⟩
        · (repeat' (first | refine Wl.assignE (by conv => { lhs; whnf }) ?_ | refine Wl.nil ?_ | refine Wl.guardY rfl rfl ?_ | refine Wl.pickTE rfl (by conv => { lhs; whnf }) ?_ | refine Wl.pickFE rfl (by conv => { lhs; whnf }) ?_ | refine Qseq.normal ?_ | refine Wc.ret ?_ | refine Qseq.ret ?_ | refine Qblk.ret ?_))
          exact Qfn.ret1 rfl rfl ⟨_, rfl, by rw [Bool.eq_false_iff.2 fun e => h4 (hu.2 e)]; rfl, n1⟩
      · (repeat' (first | refine Wl.moveE (by conv => { lhs; whnf }) ?_ | refine Wl.assignE (by conv => { lhs; whnf }) ?_ | refine Wl.nil ?_ | refine Wl.guardY rfl rfl ?_ | refine Wl.guardN rfl rfl ?_ | refine Wl.pickTE rfl (by conv => { lhs; whnf }) ?_ | refine Wl.pickFE rfl (by conv => { lhs; whnf }) ?_ | refine Qseq.normal ?_ | refine Wc.ret ?_ | refine Qseq.ret ?_ | refine Qblk.ret ?_))
        refine Qfn.ret1 rfl rfl ⟨_, rfl, ?_, Chg.refl _ _⟩
        unfold hexM
        rw [hd, decide_eq_false (show ¬ s.length % 2 = 0 by omega), Bool.and_false, Bool.and_false]; rfl
    · (repeat' (first | refine Wl.moveE (by conv => { lhs; whnf }) ?_ | refine Wl.assignE (by conv => { lhs; whnf }) ?_ | refine Wl.nil ?_ | refine Wl.guardY rfl rfl ?_ | refine Wl.guardN rfl rfl ?_ | refine Wl.pickFE rfl (by conv => { lhs; whnf }) ?_ | refine Qseq.normal ?_ | refine Wc.ret ?_ | refine Qseq.ret ?_ | refine Qblk.ret ?_))
      refine Qfn.ret1 rfl rfl ⟨_, rfl, ?_, Chg.refl _ _⟩
      unfold hexM
      rw [hd, decide_eq_false (show ¬ 2 ≤ s.length by omega), Bool.false_and, Bool.and_false]; rfl
  · have h2 : c ≠ 120 := by rintro rfl; exact h rfl
    have hf : fitsM c s = true := by unfold fitsM; rw [if_neg h1, if_neg h2]
    rw [hf]
    (repeat' (first | refine Wl.assignE (by conv => { lhs; whnf }) ?_ | refine Wl.nil ?_ | refine Qseq.normal ?_ | refine Wc.seq ?_ | refine Wc.region ?_ | refine Wc.skip ?_ | refine Wc.ret ?_ | refine Qblk.normal ?_ | refine Wc.condF rfl ?_))
    exact Qfn.ret1 rfl rfl ⟨_, rfl, rfl, Chg.refl _ _⟩
theorem fitsR_spec {w : World} {c : UInt8} {s : List UInt8} (hE : ErrV w) (ht : Tb w) (hl : s.length ≤ 100000000) :
    Calls Tryz.prog 23 #[.int .u8 c.toNat, vs s] w (Ret fun r w' => r = .bool (fitsM c s) ∧ New w w') := by
  refine calls_of_Wc Tryz.func23 rfl Tryz.ntmps23 rfl ?_
  (repeat' (first | refine Wl.moveE (by conv => { lhs; whnf }) ?_ | refine Wl.assignE (by conv => { lhs; whnf }) ?_ | refine Wl.nil ?_ | refine Qseq.normal ?_ | refine Wc.seq ?_ | refine Wc.region ?_ | refine Wc.block ?_))
  refine Wl.eql rfl rfl (fun h => ?_) (fun h => ?_)
  · obtain rfl : c = 110 := UInt8.toNat.inj (by show c.toNat = 110; omega)
    (repeat' (first | refine Wl.moveE (by conv => { lhs; whnf }) ?_ | refine Wl.assignE (by conv => { lhs; whnf }) ?_ | refine Wl.nil ?_ | refine Qseq.normal ?_ | refine Wc.seq ?_ | refine Wc.region ?_ | refine Wc.condT rfl ?_))
    refine Wl.call (NumberR_spec hE ht hl) rfl ?_
    rintro r w1 ⟨hr, n1⟩
    obtain ⟨n, e, rfl, he⟩ := num_ok hr
    have hf : fitsM 110 s = decide (e = 0) := by rw [← he]; rfl
    rw [hf]
    (repeat' (first | refine Wl.moveE (by conv => { lhs; whnf }) ?_ | refine Wl.assignE (by conv => { lhs; whnf }) ?_ | refine Wl.nil ?_ | refine Wl.extract rfl rfl ?_ | refine Qseq.normal ?_ | refine Wc.seq ?_ | refine Wc.region ?_))
    refine Wl.eql rfl rfl (fun h => ?_) (fun h => ?_)
    · (repeat' (first | refine Wl.assignE (by conv => { lhs; whnf }) ?_ | refine Wl.nil ?_ | refine Qseq.normal ?_ | refine Wc.ret ?_ | refine Qseq.ret ?_ | refine Qblk.ret ?_))
      exact Qfn.ret1 rfl rfl ⟨_, rfl, by rw [decide_eq_true h]; rfl, n1⟩
    · (repeat' (first | refine Wl.assignE (by conv => { lhs; whnf }) ?_ | refine Wl.nil ?_ | refine Qseq.normal ?_ | refine Wc.ret ?_ | refine Qseq.ret ?_ | refine Qblk.ret ?_))
      exact Qfn.ret1 rfl rfl ⟨_, rfl, by rw [decide_eq_false h]; rfl, n1⟩
  have h1 : c ≠ 110 := by rintro rfl; exact h rfl
  (repeat' (first | refine Wl.assignE (by conv => { lhs; whnf }) ?_ | refine Wl.nil ?_ | refine Qseq.normal ?_ | refine Wc.seq ?_ | refine Wc.region ?_ | refine Wc.condF rfl ?_))
  refine Wl.eql rfl rfl (fun h => ?_) (fun h => ?_)
  · obtain rfl : c = 120 := UInt8.toNat.inj (by show c.toNat = 120; omega)
    have hf : fitsM 120 s = hexM s := rfl
    rw [hf]
    (repeat' (first | refine Wl.moveE (by conv => { lhs; whnf }) ?_ | refine Wl.assignE (by conv => { lhs; whnf }) ?_ | refine Wl.nil ?_ | refine Qseq.normal ?_ | refine Wc.seq ?_ | refine Wc.region ?_ | refine Wc.condT rfl ?_))
    refine Wl.call (hexR_spec hl) rfl ?_
    rintro _ _ ⟨rfl, rfl⟩
    (repeat' (first | refine Wl.assignE (by conv => { lhs; whnf }) ?_ | refine Wl.nil ?_ | refine Qseq.normal ?_ | refine Wc.ret ?_ | refine Qseq.ret ?_ | refine Qblk.ret ?_))
    exact Qfn.ret1 rfl rfl ⟨_, rfl, rfl, Chg.refl _ _⟩
  · have h2 : c ≠ 120 := by rintro rfl; exact h rfl
    have hf : fitsM c s = true := by unfold fitsM; rw [if_neg h1, if_neg h2]
    rw [hf]
    (repeat' (first | refine Wl.assignE (by conv => { lhs; whnf }) ?_ | refine Wl.nil ?_ | refine Qseq.normal ?_ | refine Wc.seq ?_ | refine Wc.region ?_ | refine Wc.skip ?_ | refine Wc.ret ?_ | refine Qblk.normal ?_ | refine Wc.condF rfl ?_))
    exact Qfn.ret1 rfl rfl ⟨_, rfl, rfl, Chg.refl _ _⟩
end Go.Proofs.YtpnpllghabbhlaaGreatDoor

namespace Go.Proofs.YtpnpllghabbhlaaGreatDoor
open Go

def ordW : List (List UInt8) := [[116, 114, 101, 101], [97, 100, 100], [115, 101, 116], [108, 97, 121], [116, 97, 107, 101], [102, 97, 105, 108], [109, 101, 110, 100], [98, 108, 111, 98], [110, 111, 100, 101, 115], [115, 104, 111, 119], [108, 121, 105, 110, 103], [98, 111, 111, 116], [114, 111, 119, 115], [114, 111, 117, 110, 100, 115], [119, 104, 121], [111, 119, 110, 101, 114, 115], [108, 111, 115, 101, 114, 115], [108, 105, 116], [99, 111, 117, 110, 116, 115], [106, 117, 100, 103, 101], [111, 117, 116], [105, 110], [103, 111, 110, 101], [108, 105, 102, 101], [115, 117, 115, 112, 101, 110, 100], [110, 97, 112], [114, 101, 115, 117, 109, 101], [115, 108, 101, 101, 112], [119, 97, 107, 101], [97, 115, 108, 101, 101, 112], [116, 114, 97, 99, 101], [108, 111, 115, 116], [99, 97, 114, 100, 115], [114, 101, 102, 117, 115, 101, 100], [99, 97, 114, 100], [116, 97, 98, 108, 101], [115, 101, 116, 116, 105, 110, 103]]
def ordF : List (List UInt8) := [[120], [116, 116], [116, 116, 116], [116, 120], [110], [116], [116], [], [], [116], [], [], [], [], [116], [], [], [], [], [], [116], [116], [], [116], [116, 42], [110, 116, 116, 42], [], [116], [116], [], [], [], [], [], [116], [116], [116]]
/-- A word's letters. -/
def lettersOf (w : List UInt8) : Option (List UInt8) := ((ordW.zip ordF).find? fun e => e.1 = w).map (·.2)
theorem ord_len : ordW.length = 37 ∧ ordF.length = 37 := by decide
theorem ord_apart : ordW.Nodup := by decide
end Go.Proofs.YtpnpllghabbhlaaGreatDoor

namespace Go.Proofs.YtpnpllghabbhlaaGreatDoor
open Go Wk
open Go.RowKit (Below)
attribute [local irreducible] Go.Calls

theorem goodS : GoodR (one vs) 1 := good_one _ fun _ => rfl
theorem allR_vs {P : Nat → Prop} {w : World} : ∀ (l : List (List UInt8)), AllR (one vs) 1 P w l (l.map vs)
  | [] => trivial
  | _ :: l => ⟨rfl, rfl, allR_vs l⟩
theorem letters_at {i : Nat} (h : i < 37) : ∃ s f, ordW[i]? = some s ∧ ordF[i]? = some f ∧ lettersOf s = some f := by
  have : ∀ i : Fin 37, ordW[i.val]? = some (ordW[i.val]?.getD []) ∧ ordF[i.val]? = some (ordF[i.val]?.getD []) ∧ lettersOf (ordW[i.val]?.getD []) = some (ordF[i.val]?.getD []) := by decide +kernel
  have h1 := this ⟨i, h⟩
  exact ⟨_, _, h1.1, h1.2.1, h1.2.2⟩
theorem letters_none {s : List UInt8} (h : ∀ j, j < 37 → ordW[j]? ≠ some s) : lettersOf s = none := by
  unfold lettersOf
  rw [Option.map_eq_none_iff, List.find?_eq_none]
  intro e he
  obtain ⟨j, hj⟩ := List.mem_iff_getElem?.1 he
  obtain ⟨h1, _⟩ := List.getElem?_zip_eq_some.1 hj
  have hlt := (List.getElem?_eq_some_iff.1 h1).1
  rw [ord_len.1] at hlt
  simp only [decide_eq_true_eq]
  rintro e1
  exact h j hlt (by rw [h1, e1])
set_option maxRecDepth 8000 in
theorem FieldsR_spec {w : World} {s : List UInt8} : Calls Tryz.prog 22 #[vs s] w (Ret fun r w' => (match lettersOf s with
    | none => r = .tuple #[vs [], .bool false]
    | some f => r = .tuple #[vs f, .bool true]) ∧ New w w') := by
  refine calls_of_Wc Tryz.func22 rfl Tryz.ntmps22 rfl ?_
  (repeat' (first | refine Wl.assignE (by conv => { lhs; whnf }) ?_ | refine Wl.nil ?_ | refine Qseq.normal ?_ | refine Wc.seq ?_ | refine Wc.region ?_))
  refine Wl.buildSliceN (R := one vs) (xs := ordW) (us := ordW.map vs) (Pe := fun _ => False) goodS rfl rfl (allR_vs _) (by decide) (by decide) fun v1 w1 o1 n1 s1 ob1 => ?_
  (repeat' (first | refine Wl.assignE (by conv => { lhs; whnf }) ?_ | refine Wl.nil ?_ | refine Qseq.normal ?_ | refine Wc.seq ?_ | refine Wc.region ?_))
  refine Wl.buildSliceN (R := one vs) (xs := ordF) (us := ordF.map vs) (Pe := fun _ => False) goodS rfl rfl (allR_vs _) (by decide) (by decide) fun v2 w2 o2 n2 s2 ob2 => ?_
  have r1 := (o1.rd goodS.mo).keep (stable_one _) n2.keep
  have r2 := o2.rd goodS.mo
  have n02 := n1.trans n2
  obtain ⟨a1, cp1, rfl, _, _⟩ := r1.form
  obtain ⟨a2, cp2, rfl, _, _⟩ := r2.form
  rw [ord_len.1] at *
  clear o1 o2 ob1 ob2
  (repeat' (first | refine Wl.assignE (by conv => { lhs; whnf }) ?_ | refine Wl.nil ?_ | refine Qseq.normal ?_ | refine Wc.seq ?_ | refine Wc.region ?_ | refine Wc.block ?_))
  refine Wc.loop (σ := Nat) (fun i => [(0, vs s), (4, .slice a1 37 cp1), (5, .slice a2 ordF.length cp2), (6, vi i)]) (fun i W => i ≤ 37 ∧ (∀ j, j < i → ordW[j]? ≠ some s) ∧ w2 = W) (fun i => 37 - i) 0 ⟨rfl, rfl, rfl, rfl, trivial⟩ ⟨by omega, fun j hj => by omega, rfl⟩ ?_
  rintro i G _ ⟨hi, hno, rfl⟩
  simp only [upds]
  (repeat' (first | refine Wl.moveE (by conv => { lhs; whnf }) ?_ | refine Wl.assignE (by conv => { lhs; whnf }) ?_ | refine Wl.nil ?_ | refine Wl.lenS rfl ?_ | refine Qseq.normal ?_ | refine Wc.seq ?_ | refine Wc.region ?_ | refine Wc.block ?_ | refine Wc.skip ?_ | refine Wc.exit ?_ | refine Wc.ret ?_ | refine Qseq.exit ?_ | refine Qblk.hit ?_ | refine Qloop.exit ?_ | refine Wc.condT rfl ?_ | refine Wc.condF rfl ?_ | refine Wl.lss rfl rfl (fun _ => ?_) (fun _ => ?_)))
  · obtain ⟨x, f, hx, hf, hl⟩ := letters_at (i := i) (by omega)
    refine Wl.idxAddr r1 rfl rfl (by omega) (by rw [Int.toNat_natCast]; exact hx) fun bb off cs hcl hR hat => ?_
    obtain rfl : cs = [vs x] := hR
    refine Wl.load1 (u := vs x) rfl (hat.get 0 rfl) ?_
    (repeat' (first | refine Wl.moveE (by conv => { lhs; whnf }) ?_ | refine Wl.assignE (by conv => { lhs; whnf }) ?_ | refine Wl.nil ?_ | refine Qseq.normal ?_ | refine Wc.seq ?_ | refine Wc.region ?_ | refine Wc.skip ?_ | refine Qblk.normal ?_ | refine Wc.condT rfl ?_ | refine Wc.condF rfl ?_ | refine Wl.add rfl rfl (by omega) (by omega) ?_ | refine Wl.seql rfl rfl (fun _ => ?_) (fun _ => ?_)))
    · have e : x = s := by assumption
      subst e
      refine Wl.idxAddr r2 rfl rfl (by omega) (by rw [Int.toNat_natCast]; exact hf) fun bb off cs hcl hR hat => ?_
      obtain rfl : cs = [vs f] := hR
      refine Wl.load1 (u := vs f) rfl (hat.get 0 rfl) ?_
      (repeat' (first | refine Wl.assignE (by conv => { lhs; whnf }) ?_ | refine Wl.nil ?_ | refine Qseq.normal ?_ | refine Wc.ret ?_ | refine Qseq.ret ?_ | refine Qblk.ret ?_ | refine Qloop.ret ?_))
      exact Qfn.ret2 rfl rfl rfl ⟨_, rfl, by rw [hl]; rfl, n02⟩
    · exact Qloop.normal (i + 1) ⟨rfl, rfl, rfl, rfl, trivial⟩ ⟨by omega, upto_next hno (by rw [hx]; exact fun e => absurd (Option.some.inj e) (by assumption)), rfl⟩ (by omega)
  · exact Qfn.ret2 rfl rfl rfl ⟨_, rfl, by rw [letters_none fun j hj => hno j (by omega)]; rfl, n02⟩
end Go.Proofs.YtpnpllghabbhlaaGreatDoor

namespace Go.Proofs.YtpnpllghabbhlaaGreatDoor
open Go Wk
open Go.RowKit (Below)
attribute [local irreducible] Go.Calls

/-- An order's cells. -/
def ordC (word : List UInt8) (v : Value) : List Value := [vs word, v]
def ordV (word : List UInt8) (v : Value) : Value := .agg #[vs word, v]
theorem Same_spec {Pa Pb : Nat → Prop} {w : World} {a b : List UInt8} {u v : Value} {x y : List (List UInt8)} (hx : RdS (one vs) 1 Pa w u x) (hy : RdS (one vs) 1 Pb w v y) :
    Calls Tryz.prog 6 #[ordV a u, ordV b v] w (Ret fun r w' => r = .bool (decide (a = b ∧ x = y)) ∧ New w w') := by
  obtain ⟨a1, cp1, rfl, hc1, hd1⟩ := hx.form
  obtain ⟨a2, cp2, rfl, hc2, hd2⟩ := hy.form
  simp only [maxLen] at hd1 hd2
  refine calls_of_Wc Tryz.func6 rfl Tryz.ntmps6 rfl ?_
  (repeat' (first | refine Wc.seq ?_ | refine Wc.region ?_))
  refine Wl.box rfl fun w1 b1 n1 s1 => ?_
  replace b1 : Bk w1 w.heap.size 24 (ordC a (.slice a1 x.length cp1)) := b1
  skip
  refine Wl.box rfl fun w2 b2 n2 s2 => ?_
  replace b2 : Bk w2 w1.heap.size 24 (ordC b (.slice a2 y.length cp2)) := b2
  replace b1 := b1.chg n2 fun e => e
  have n02 := n1.trans n2
  replace hx := hx.keep (stable_one _) n02.keep
  replace hy := hy.keep (stable_one _) n02.keep
  (repeat' (first | refine Wl.assignE (by conv => { lhs; whnf }) ?_ | refine Wl.nil ?_ | refine Qseq.normal ?_ | refine Wc.seq ?_ | refine Wc.region ?_ | refine Wl.fieldAddr rfl rfl ?_))
  refine Wl.load1 (u := vs a) rfl (b1.cell (o := 0) rfl) ?_
  (repeat' (refine Wl.fieldAddr rfl rfl ?_))
  refine Wl.load1 (u := vs b) rfl (b2.cell (o := 0) rfl) ?_
  (repeat' (first | refine Wl.moveE (by conv => { lhs; whnf }) ?_ | refine Wl.assignE (by conv => { lhs; whnf }) ?_ | refine Wl.nil ?_ | refine Wl.guardY rfl rfl ?_ | refine Wl.guardN rfl rfl ?_ | refine Wl.pickTE rfl (by conv => { lhs; whnf }) ?_ | refine Qseq.normal ?_ | refine Wc.seq ?_ | refine Wc.region ?_ | refine Wc.ret ?_ | refine Qseq.ret ?_ | refine Wc.condT rfl ?_ | refine Wl.fieldAddr rfl rfl ?_ | refine Wl.sneq rfl rfl (fun _ => ?_) (fun _ => ?_)))
  · exact Qfn.ret1 rfl rfl ⟨_, rfl, by rw [decide_eq_false fun e => absurd e.1 (by assumption)]; rfl, n02⟩
  refine Wl.load1 (u := .slice a1 x.length cp1) rfl (b1.cell (o := 1) rfl) ?_
  (repeat' (first | refine Wl.guardY rfl rfl ?_ | refine Wl.lenS rfl ?_ | refine Wl.fieldAddr rfl rfl ?_))
  refine Wl.load1 (u := .slice a2 y.length cp2) rfl (b2.cell (o := 1) rfl) ?_
  (repeat' (first | refine Wl.assignE (by conv => { lhs; whnf }) ?_ | refine Wl.nil ?_ | refine Wl.guardY rfl rfl ?_ | refine Wl.pickFE rfl (by conv => { lhs; whnf }) ?_ | refine Wl.lenS rfl ?_ | refine Qseq.normal ?_ | refine Wc.seq ?_ | refine Wc.region ?_ | refine Wc.block ?_ | refine Wc.skip ?_ | refine Wc.ret ?_ | refine Qseq.ret ?_ | refine Wc.condT rfl ?_ | refine Wc.condF rfl ?_ | refine Wl.neq rfl rfl (fun _ => ?_) (fun _ => ?_)))
  · exact Qfn.ret1 rfl rfl ⟨_, rfl, by rw [decide_eq_false fun e => by have := congrArg List.length e.2; omega]; rfl, n02⟩
  have hab : a = b := by assumption
  have hlen : x.length = y.length := by omega
  refine Wc.loop (σ := Nat) (fun i => [(2, .pointer (some ⟨w.heap.size, 0, none⟩)), (3, .pointer (some ⟨w1.heap.size, 0, none⟩)), (5, vi i)]) (fun i W => i ≤ x.length ∧ x.take i = y.take i ∧ New w2 W) (fun i => x.length - i) 0 ⟨rfl, rfl, rfl, trivial⟩ ⟨by omega, rfl, Chg.refl _ _⟩ ?_
  rintro i G W ⟨hi, ht, nW⟩
  simp only [upds]
  replace b1 := b1.chg nW fun e => e
  replace b2 := b2.chg nW fun e => e
  replace hx := hx.keep (stable_one _) nW.keep
  replace hy := hy.keep (stable_one _) nW.keep
  (repeat' (first | refine Wl.moveE (by conv => { lhs; whnf }) ?_ | refine Wc.seq ?_ | refine Wc.region ?_ | refine Wl.fieldAddr rfl rfl ?_))
  refine Wl.load1 (u := .slice a1 x.length cp1) rfl (b1.cell (o := 1) rfl) ?_
  (repeat' (first | refine Wl.assignE (by conv => { lhs; whnf }) ?_ | refine Wl.nil ?_ | refine Wl.lenS rfl ?_ | refine Qseq.normal ?_ | refine Wc.seq ?_ | refine Wc.region ?_ | refine Wc.block ?_ | refine Wc.skip ?_ | refine Wc.exit ?_ | refine Wc.ret ?_ | refine Qseq.exit ?_ | refine Qblk.hit ?_ | refine Qloop.exit ?_ | refine Wc.condT rfl ?_ | refine Wc.condF rfl ?_ | refine Wl.lss rfl rfl (fun _ => ?_) (fun _ => ?_)))
  · obtain ⟨p, hp⟩ : ∃ p, x[i]? = some p := ⟨_, List.getElem?_eq_getElem (by omega)⟩
    obtain ⟨q, hq⟩ : ∃ q, y[i]? = some q := ⟨_, List.getElem?_eq_getElem (by omega)⟩
    refine Wc.regionT rfl (by kernel_rfl) (fun w' => New W w') (Chg.drew _ _) ?_
    intro w3 n3
    (repeat' (refine Wt.quiet rfl (Wq.fieldAddr rfl rfl (Wq.nil ?_))))
    refine Wt.quiet rfl (Wq.load1 rfl (fun w' hw => (b1.chg hw fun e => e).cell (o := 1) rfl) (Wq.nil ?_))
    (repeat' (refine Wt.quiet rfl (Wq.moveE (by conv => { lhs; whnf }) (Wq.nil ?_))))
    refine Wt.quiet rfl (Wq.idxAddr hx (fun w' hw => Chg.keep hw fun _ _ _ e => e) rfl rfl (by omega) (by rw [Int.toNat_natCast]; exact hp) fun bb off cs hcl hR hat => Wq.nil ?_)
    obtain rfl : cs = [vs p] := hR
    refine Wt.quiet rfl (Wq.load1 (u := vs p) rfl (fun w' hw => (hat w' hw).get 0 rfl) (Wq.nil ?_))
    clear hat
    (repeat' (refine Wt.quiet rfl (Wq.fieldAddr rfl rfl (Wq.nil ?_))))
    refine Wt.quiet rfl (Wq.load1 rfl (fun w' hw => (b2.chg hw fun e => e).cell (o := 1) rfl) (Wq.nil ?_))
    (repeat' (refine Wt.quiet rfl (Wq.moveE (by conv => { lhs; whnf }) (Wq.nil ?_))))
    refine Wt.quiet rfl (Wq.idxAddr hy (fun w' hw => Chg.keep hw fun _ _ _ e => e) rfl rfl (by omega) (by rw [Int.toNat_natCast]; exact hq) fun bb off cs hcl hR hat => Wq.nil ?_)
    obtain rfl : cs = [vs q] := hR
    refine Wt.quiet rfl (Wq.load1 (u := vs q) rfl (fun w' hw => (hat w' hw).get 0 rfl) (Wq.nil ?_))
    clear hat
    refine Wt.quiet rfl (Wq.sneq rfl rfl (fun hd => Wq.nil ?_) (fun hd => Wq.nil ?_))
    · (repeat' (refine Wt.nil ?_))
      (repeat' (first | refine Wl.assignE (by conv => { lhs; whnf }) ?_ | refine Wl.nil ?_ | refine Qseq.normal ?_ | refine Wc.seq ?_ | refine Wc.region ?_ | refine Wc.ret ?_ | refine Qseq.ret ?_ | refine Qblk.ret ?_ | refine Qloop.ret ?_ | refine Wc.condT rfl ?_))
      refine Qfn.ret1 rfl rfl ⟨_, rfl, ?_, New.trans n02 (New.trans nW n3)⟩
      rw [decide_eq_false fun e => ?_]
      · rfl
      · rw [e.2, hq] at hp
        exact hd (Option.some.inj hp).symm
    · subst hd
      (repeat' (refine Wt.nil ?_))
      (repeat' (first | refine Wl.moveE (by conv => { lhs; whnf }) ?_ | refine Wl.assignE (by conv => { lhs; whnf }) ?_ | refine Wl.nil ?_ | refine Qseq.normal ?_ | refine Wc.region ?_ | refine Wc.skip ?_ | refine Qblk.normal ?_ | refine Wc.condF rfl ?_ | refine Wl.add rfl rfl (by omega) (by omega) ?_))
      exact Qloop.normal (i + 1) ⟨rfl, rfl, rfl, trivial⟩ ⟨by omega, by rw [List.take_add_one, List.take_add_one, ht, hp, hq], New.trans nW n3⟩ (by omega)
  · refine Qfn.ret1 rfl rfl ⟨_, rfl, ?_, New.trans n02 nW⟩
    rw [List.take_of_length_le (by omega), List.take_of_length_le (by omega)] at ht
    rw [decide_eq_true ⟨hab, ht⟩]; rfl
end Go.Proofs.YtpnpllghabbhlaaGreatDoor

namespace Go.Proofs.YtpnpllghabbhlaaGreatDoor.Wk
open Go Go.RowKit

/-- What a lookup may tell. -/
def Tells (l : List (Value × Value)) (key z r : Value) : Prop := (key, r) ∈ l ∨ r = z ∧ ∀ p ∈ l, p.1 ≠ key
/-- A map with the stamps of its entries. -/
def MapK (P : Program) (k : TypeId) (w : World) (b : Nat) (l : List (Value × Value)) : Prop :=
  ∃ es clock, w.heap[b]? = some (.map es clock) ∧ es.toList.map (fun e => (e.key, e.val)) = l ∧ (∀ e ∈ es.toList, ∃ q, keyOf P k e.key = some q) ∧ (∀ e ∈ es.toList, e.born < clock) ∧ (es.toList.map (·.born)).Nodup
theorem MapK.toL {P : Program} {k : TypeId} {w : World} {b : Nat} {l : List (Value × Value)} (h : MapK P k w b l) : MapL P k w b l := by
  obtain ⟨es, clock, h1, h2, h3, _⟩ := h
  exact ⟨es, clock, h1, h2, h3⟩
theorem MapK.chg {P : Program} {k : TypeId} {w w' : World} {M : Nat → Prop} {b : Nat} {l : List (Value × Value)} (h : MapK P k w b l) (hc : Chg M w w') (hb : ¬ M b) : MapK P k w' b l := by
  have hl := h.toL.lt
  obtain ⟨es, clock, h, r⟩ := h
  exact ⟨es, clock, (hc.block b hl hb).trans h, r⟩
/-- An entry has been found or laid; it waits for its value. -/
def MapP (P : Program) (k : TypeId) (w : World) (b : Nat) (l : List (Value × Value)) (stamp j : Nat) : Prop :=
  ∃ es clock, w.heap[b]? = some (.map es clock) ∧ es.toList.map (fun e => (e.key, e.val)) = l ∧ (∀ e ∈ es.toList, ∃ q, keyOf P k e.key = some q) ∧ (∀ e ∈ es.toList, e.born < clock) ∧ (es.toList.map (·.born)).Nodup ∧ ∃ e, es.toList[j]? = some e ∧ e.born = stamp
theorem MapP.toL {P : Program} {k : TypeId} {w : World} {b : Nat} {l : List (Value × Value)} {stamp j : Nat} (h : MapP P k w b l stamp j) : MapL P k w b l := by
  obtain ⟨es, clock, h1, h2, h3, _⟩ := h
  exact ⟨es, clock, h1, h2, h3⟩
theorem pair_set {l : List (Value × Value)} {key v u : Value} {j : Nat} (hj : l[j]? = some (key, v)) (hnd : (l.map (·.1)).Nodup) : (key, u) ∈ l.set j (key, u) ∧ ∀ r, (key, r) ∈ l.set j (key, u) → r = u := by
  have hjl := (List.getElem?_eq_some_iff.1 hj).1
  refine ⟨List.mem_iff_getElem?.2 ⟨j, by rw [List.getElem?_set, if_pos rfl, if_pos hjl]⟩, fun r hr => ?_⟩
  obtain ⟨i, hi⟩ := List.mem_iff_getElem?.1 hr
  rw [List.getElem?_set] at hi
  split at hi
  · simp only [Option.some.injEq, Prod.mk.injEq] at hi
    exact hi.2.symm
  · rename_i hne
    exfalso
    have h1 : (l.map (·.1))[i]? = some key := by rw [List.getElem?_map, hi]; rfl
    have h2 : (l.map (·.1))[j]? = some key := by rw [List.getElem?_map, hj]; rfl
    have hil := (List.getElem?_eq_some_iff.1 h1).1
    exact hne ((List.getElem?_inj hil hnd).1 (h1.trans h2.symm)).symm
section
variable {P : Program} {n : Nat} {ds : List Deferred} {Q : Po} {F : Fr} {w w' : World} {ops rest : List Oper} {d : Nat} {ty : TypeId} {pos : String} {aft : Array Edge}
theorem run_lookupOk {t k e : TypeId} {sz bytes : Nat} {agg : Bool} {z : Value} {b : Nat} {l : List (Value × Value)} {key : Value} {q : Lit} (ht : P.underlying t = some (.map k e)) (he : ElT P e sz bytes agg z) (Kd : Maps.Keyed P k) (h : MapL P k w b l) (hq : keyOf P k key = some q) :
    ∃ r f, (Instr.lookup t (.map (some b)) key true).run P w = .ok (.tuple #[r, .bool f]) w ∧ (f = true ∧ (key, r) ∈ l ∨ f = false ∧ r = z ∧ ∀ p ∈ l, p.1 ≠ key) := by
  obtain ⟨es, clock, hh, rfl, hk⟩ := h
  have hg := run_getObj_map (P := P) w b es clock hh
  rcases Kd.find w hq es.toList hk with ⟨hf, hn⟩ | ⟨j, e0, hf, hj, rfl⟩
  · refine ⟨z, false, ?_, .inr ⟨rfl, rfl, fun p hp => ?_⟩⟩
    · simp [Instr.lookup, run_underlying ht, hg, Kd.check w _ hq, hf, he.zeroValue]
    · obtain ⟨e1, he1, rfl⟩ := List.mem_map.1 hp; exact hn e1 he1
  · refine ⟨e0.val, true, ?_, .inl ⟨rfl, List.mem_map.2 ⟨e0, List.mem_of_getElem? hj, rfl⟩⟩⟩
    simp [Instr.lookup, run_underlying ht, hg, Kd.check w _ hq, hf]
/-- v, ok := m[k]. -/
theorem Wl.lookupOk {x i : Operand} {t k e : TypeId} {sz bytes : Nat} {agg : Bool} {z : Value} {b : Nat} {l : List (Value × Value)} {key : Value} {q : Lit} [ht : Und P t (.map k e)] [he : ElT P e sz bytes agg z] (Kd : Maps.Keyed P k) (h : MapL P k w b l) (hq : keyOf P k key = some q)
    (hx : ev n F x = .map (some b)) (hi : ev n F i = key) (c1 : ∀ r, (key, r) ∈ l → Wl P n ds Q ops rest (upd F d (.tuple #[r, .bool true])) w) (c2 : (∀ p ∈ l, p.1 ≠ key) → Wl P n ds Q ops rest (upd F d (.tuple #[z, .bool false])) w) :
    Wl P n ds Q ops (⟨some d, .lookup t x i true, ty, pos, aft, none⟩ :: rest) F w := by
  obtain ⟨r, f, hr, ⟨rfl, hp⟩ | ⟨rfl, rfl, hp⟩⟩ := run_lookupOk ht.h he Kd h hq
  · exact Wl.val (by simp only [execOp, hx, hi, Sem.run_bind, hr, Result.andThen_ok, Sem.run_pure]) (c1 r hp)
  · exact Wl.val (by simp only [execOp, hx, hi, Sem.run_bind, hr, Result.andThen_ok, Sem.run_pure]) (c2 hp)
/-- m[k] = u where k was there. -/
theorem Wl.mapSet {x i y : Operand} {t k e : TypeId} {b : Nat} {l : List (Value × Value)} {key v0 u : Value} {q : Lit} [ht : Und P t (.map k e)] (Kd : Maps.Keyed P k) (h : MapL P k w b l) (hq : keyOf P k key = some q) (hin : (key, v0) ∈ l) (hnd : (l.map (·.1)).Nodup)
    (hx : ev n F x = .map (some b)) (hi : ev n F i = key) (hy : ev n F y = u) (c : ∀ w' l', MapL P k w' b l' → (key, u) ∈ l' → (∀ r, (key, r) ∈ l' → r = u) → Chg (fun j => j = b) w w' → Wl P n ds Q ops rest F w') :
    Wl P n ds Q ops (⟨none, .mapUpdate t x i y, ty, pos, aft, none⟩ :: rest) F w := by
  have hlt := h.lt
  obtain ⟨es, clock, hh, rfl, hk⟩ := h
  have hg := run_getObj_map (P := P) w b es clock hh
  rcases Kd.find w hq es.toList hk with ⟨hf, hn⟩ | ⟨j, e0, hf, hj, rfl⟩
  · obtain ⟨e1, he1, e2⟩ := List.mem_map.1 hin
    simp only [Prod.mk.injEq] at e2
    exact absurd e2.1 (hn e1 he1)
  · let es' := es.modify j fun e => { e with key := e0.key, val := u }
    have hl' : es'.toList = es.toList.set j { e0 with val := u } := by
      have hjs := (List.getElem?_eq_some_iff.1 hj)
      apply List.ext_getElem?
      intro m
      simp only [es', Array.getElem?_toList, Array.getElem?_modify, List.getElem?_set]
      by_cases hm : j = m
      · subst hm
        simp only [if_true]
        rw [if_pos hjs.1]
        rw [Array.getElem?_toList] at hj
        rw [hj]; rfl
      · rw [if_neg hm, if_neg hm]
    have h1 : (w.heap.setIfInBounds b (.map es' clock))[b]? = some (.map es' clock) := by simp [Array.getElem?_setIfInBounds, hlt]
    have hset : (setObj b (.map es' clock)).run P w = .ok () { w with heap := w.heap.setIfInBounds b (.map es' clock) } := by simp [setObj, Sem.run, hh]
    have hpj : (es.toList.map (fun e => (e.key, e.val)))[j]? = some (e0.key, e0.val) := by rw [List.getElem?_map, hj]; rfl
    have hmap : es'.toList.map (fun e => (e.key, e.val)) = (es.toList.map (fun e => (e.key, e.val))).set j (e0.key, u) := by rw [hl', List.map_set]
    obtain ⟨p1, p2⟩ := pair_set (u := u) hpj hnd
    refine Wl.unit (w' := { w with heap := w.heap.setIfInBounds b (.map es' clock) }) ?_ (c _ _ ⟨_, _, h1, hmap, fun e he => ?_⟩ p1 p2 ⟨rfl, rfl, rfl, by simp, fun j _ hj => Array.getElem?_setIfInBounds_ne (Ne.symm hj)⟩)
    · have hst := Kd.stays w hq
      have hj' : es[j]? = some e0 := by rw [Array.getElem?_toList] at hj; exact hj
      simp [execOp, hx, hi, hy, Instr.mapUpdate, run_underlying ht.h, hg, Kd.check w _ hq, hf, hj', hst, hset, es']
    · rw [hl'] at he
      rcases List.mem_or_eq_of_mem_set he with he | rfl
      · exact hk e he
      · exact hk e0 (List.mem_of_getElem? hj)
theorem Wl.mapEntry {x i : Operand} {t k e sz bytes : Nat} {agg : Bool} {z : Value} {b : Nat} {l : List (Value × Value)} {key : Value} {q : Lit} [ht : Und P t (.map k e)] [he : ElT P e sz bytes agg z] (Kd : Maps.Keyed P k) (h : MapK P k w b l) (hq : keyOf P k key = some q)
    (hx : ev n F x = .map (some b)) (hi : ev n F i = key)
    (c : ∀ w' l' j v stamp, MapP P k w' b l' stamp j → (l' = l ++ [(key, z)] ∧ j = l.length ∧ v = z ∧ (∀ p ∈ l, p.1 ≠ key) ∨ l' = l ∧ l[j]? = some (key, v)) → Chg (fun j => j = b) w w' → Wl P n ds Q ops rest (upd F d (.tuple #[v, vi (stamp : Nat)])) w') :
    Wl P n ds Q ops (⟨some d, .mapEntry t x i, ty, pos, aft, none⟩ :: rest) F w := by
  have hlt := h.toL.lt
  obtain ⟨es, clock, hh, rfl, hk, hb, hnb⟩ := h
  have hg := run_getObj_map (P := P) w b es clock hh
  have hrun : ∀ o, (setObj b o).run P w = .ok () { w with heap := w.heap.setIfInBounds b o } ∨ True := fun _ => .inr trivial
  rcases Kd.find w hq es.toList hk with ⟨hf, hn⟩ | ⟨j, e0, hf, hj, rfl⟩
  · let es' := es.push { key, val := z, born := clock }
    have h1 : (w.heap.setIfInBounds b (.map es' (clock + 1)))[b]? = some (.map es' (clock + 1)) := by simp [Array.getElem?_setIfInBounds, hlt]
    have hset : (setObj b (.map es' (clock + 1))).run P w = .ok () { w with heap := w.heap.setIfInBounds b (.map es' (clock + 1)) } := by simp [setObj, Sem.run, hh]
    refine Wl.val (w' := { w with heap := w.heap.setIfInBounds b (.map es' (clock + 1)) }) (v := .tuple #[z, vi (clock : Nat)]) ?_ (c _ _ es.toList.length z clock ⟨es', clock + 1, h1, rfl, fun e he => ?_, fun e he => ?_, ?_, ⟨{ key, val := z, born := clock }, ?_, rfl⟩⟩ (.inl ⟨by simp [es'], by simp, rfl, fun p hp => ?_⟩) ⟨rfl, rfl, rfl, by simp, fun j _ hj => Array.getElem?_setIfInBounds_ne (Ne.symm hj)⟩)
    · simp [execOp, hx, hi, Instr.mapEntry, run_underlying ht.h, hg, Kd.check w _ hq, hf, he.zeroValue, hset, es', goInt]
    · simp only [es', Array.toList_push, List.mem_append, List.mem_singleton] at he
      rcases he with he | rfl
      · exact hk e he
      · exact ⟨q, hq⟩
    · simp only [es', Array.toList_push, List.mem_append, List.mem_singleton] at he
      rcases he with he | rfl
      · have := hb e he; omega
      · exact Nat.lt_succ_self _
    · simp only [es', Array.toList_push, List.map_append, List.map_cons, List.map_nil]
      rw [List.nodup_append]
      refine ⟨hnb, by simp, fun a ha c hc => ?_⟩
      obtain ⟨e1, he1, rfl⟩ := List.mem_map.1 ha
      simp only [List.mem_singleton] at hc
      have := hb e1 he1
      omega
    · simp [es']
    · obtain ⟨e1, he1, rfl⟩ := List.mem_map.1 hp
      exact hn e1 he1
  · let es' := es.modify j fun e => { e with key := e0.key }
    have hl' : es'.toList = es.toList := by
      apply List.ext_getElem?
      intro m
      simp only [es', Array.getElem?_toList, Array.getElem?_modify]
      by_cases hm : j = m
      · subst hm
        simp only [if_true]
        rw [Array.getElem?_toList] at hj
        rw [hj]; rfl
      · rw [if_neg hm]
    have h1 : (w.heap.setIfInBounds b (.map es' clock))[b]? = some (.map es' clock) := by simp [Array.getElem?_setIfInBounds, hlt]
    have hset : (setObj b (.map es' clock)).run P w = .ok () { w with heap := w.heap.setIfInBounds b (.map es' clock) } := by simp [setObj, Sem.run, hh]
    refine Wl.val (w' := { w with heap := w.heap.setIfInBounds b (.map es' clock) }) (v := .tuple #[e0.val, vi (e0.born : Nat)]) ?_ (c _ _ j e0.val e0.born ⟨es', clock, h1, by rw [hl'], by rw [hl']; exact hk, by rw [hl']; exact hb, by rw [hl']; exact hnb, ⟨e0, by rw [hl']; exact hj, rfl⟩⟩ (.inr ⟨rfl, by rw [List.getElem?_map, hj]; rfl⟩) ⟨rfl, rfl, rfl, by simp, fun j _ hj => Array.getElem?_setIfInBounds_ne (Ne.symm hj)⟩)
    have hst := Kd.stays w hq
    have hj' : es[j]? = some e0 := by rw [Array.getElem?_toList] at hj; exact hj
    simp [execOp, hx, hi, Instr.mapEntry, run_underlying ht.h, hg, Kd.check w _ hq, hf, hj', hst, hset, es', goInt]
theorem Wl.entryStore {x s y : Operand} {t k : TypeId} {b : Nat} {l : List (Value × Value)} {key v u : Value} {stamp j : Nat} (h : MapP P k w b l stamp j) (hj : l[j]? = some (key, v))
    (hx : ev n F x = .map (some b)) (hs : ev n F s = vi (stamp : Nat)) (hy : ev n F y = u) (c : ∀ w', MapK P k w' b (l.set j (key, u)) → Chg (fun j => j = b) w w' → Wl P n ds Q ops rest F w') :
    Wl P n ds Q ops (⟨none, .entryStore t x s y, ty, pos, aft, none⟩ :: rest) F w := by
  have hlt := h.toL.lt
  obtain ⟨es, clock, hh, rfl, hk, hb, hnb, e0, hj0, rfl⟩ := h
  have hg := run_getObj_map (P := P) w b es clock hh
  rw [List.getElem?_map, hj0] at hj
  simp only [Option.map_some, Option.some.injEq, Prod.mk.injEq] at hj
  obtain ⟨rfl, rfl⟩ := hj
  let es' := es.modify j fun e => { e with val := u }
  have hj' : es[j]? = some e0 := by rw [Array.getElem?_toList] at hj0; exact hj0
  have hl' : es'.toList = es.toList.set j { e0 with val := u } := by
    have hjs := (List.getElem?_eq_some_iff.1 hj0)
    apply List.ext_getElem?
    intro m
    simp only [es', Array.getElem?_toList, Array.getElem?_modify, List.getElem?_set]
    by_cases hm : j = m
    · subst hm
      simp only [if_true]
      rw [if_pos hjs.1, hj']; rfl
    · rw [if_neg hm, if_neg hm]
  have hfind : es.findIdx? (fun e => (e.born : Int) == (e0.born : Int)) = some j := by
    have : es.toList.findIdx? (fun e => (e.born : Int) == (e0.born : Int)) = some j := by
      rw [List.findIdx?_eq_some_iff_getElem]
      have hjs := List.getElem?_eq_some_iff.1 hj0
      refine ⟨hjs.1, by rw [hjs.2]; simp, fun i hi hc => ?_⟩
      have hlt2 : i < es.toList.length := Nat.lt_trans hi hjs.1
      have e1 : (es.toList.map (·.born))[i]? = some e0.born := by
        rw [List.getElem?_map, List.getElem?_eq_getElem hlt2]
        have : (es.toList[i]).born = e0.born := by simp only [beq_iff_eq] at hc; omega
        rw [Option.map_some, this]
      have e2 : (es.toList.map (·.born))[j]? = some e0.born := by rw [List.getElem?_map, hj0]; rfl
      have := (List.getElem?_inj (List.getElem?_eq_some_iff.1 e1).1 hnb).1 (e1.trans e2.symm)
      omega
    rwa [← List.findIdx?_toArray, Array.toArray_toList] at this
  have h1 : (w.heap.setIfInBounds b (.map es' clock))[b]? = some (.map es' clock) := by simp [Array.getElem?_setIfInBounds, hlt]
  have hset : (setObj b (.map es' clock)).run P w = .ok () { w with heap := w.heap.setIfInBounds b (.map es' clock) } := by simp [setObj, Sem.run, hh]
  refine Wl.unit (w' := { w with heap := w.heap.setIfInBounds b (.map es' clock) }) ?_ (c _ ⟨es', clock, h1, by rw [hl', List.map_set], fun e he => ?_, fun e he => ?_, ?_⟩ ⟨rfl, rfl, rfl, by simp, fun j _ hj => Array.getElem?_setIfInBounds_ne (Ne.symm hj)⟩)
  · simp [execOp, hx, hs, hy, Instr.entryStore, hg, asInt, asIntOf, hfind, hset, es']
  · rw [hl'] at he
    rcases List.mem_or_eq_of_mem_set he with he | rfl
    · exact hk e he
    · exact hk e0 (List.mem_of_getElem? hj0)
  · rw [hl'] at he
    rcases List.mem_or_eq_of_mem_set he with he | rfl
    · exact hb e he
    · exact hb e0 (List.mem_of_getElem? hj0)
  · rw [hl', List.map_set]
    have e2 : (es.toList.map (·.born))[j]? = some e0.born := by rw [List.getElem?_map, hj0]; rfl
    have : (es.toList.map (·.born)).set j e0.born = es.toList.map (·.born) := by
      apply List.ext_getElem?
      intro m
      rw [List.getElem?_set]
      split
      · rename_i hm
        subst hm
        rw [if_pos (List.getElem?_eq_some_iff.1 e2).1, e2]
      · rfl
    show ((es.toList.map (·.born)).set j e0.born).Nodup
    rw [this]; exact hnb
theorem Wl.makeMapK {t : TypeId} {k : TypeId} (c : ∀ w', MapK P k w' w.heap.size [] → New w w' → w'.heap.size = w.heap.size + 1 → Wl P n ds Q ops rest (upd F d (.map (some w.heap.size))) w') :
    Wl P n ds Q ops (⟨some d, .makeMap t none, ty, pos, aft, none⟩ :: rest) F w := by
  refine Wl.val (w' := w.alloc (.map #[] 0)) (v := .map (some w.heap.size)) ?_ (c _ ⟨#[], 0, heap_alloc_new w _, by simp, by simp, by simp, by simp⟩ (Chg.alloc _ _ _) (by simp))
  simp [execOp, Instr.makeMap]
theorem Wq.lookupT {C : World → Prop} {K : Fr → Prop} {x i : Operand} {t k e sz bytes : Nat} {agg : Bool} {z r0 : Value} {b : Nat} {key : Value} {q : Lit} [ht : Und P t (.map k e)] [he : ElT P e sz bytes agg z] (Kd : Maps.Keyed P k) (hC : ∀ w, C w → ∃ l, MapL P k w b l ∧ ∀ r, Tells l key z r → r = r0) (hq : keyOf P k key = some q)
    (hx : ev n F x = .map (some b)) (hi : ev n F i = key) (c : Wq P n ds C K ops rest (upd F d r0)) : Wq P n ds C K ops (⟨some d, .lookup t x i false, ty, pos, aft, none⟩ :: rest) F := by
  refine Wq.val (fun w hw => ?_) c
  obtain ⟨l, h, hr⟩ := hC w hw
  obtain ⟨r, h1, h2⟩ := run_lookup ht.h he Kd h hq
  rw [← hr r h2]
  simp only [execOp, hx, hi, Sem.run_bind, h1, Result.andThen_ok, Sem.run_pure]
theorem Wq.buildF {C : World → Prop} {K : Fr → Prop} {t : TypeId} {m sz bytes : Nat} {agg : Bool} {z : Value} {ps : List (Nat × Operand)} {parts : List (Nat × Value)} [hf : Flat P t m] [he : ElT P t sz bytes agg z] (hz : z.cells.size = m) (hps : ps.map (fun p => (p.1, ev n F p.2)) = parts) (hp : ∀ p ∈ parts, p.1 < m ∧ p.2.cells = #[p.2])
    (c : Wq P n ds C K ops rest (upd F d (.agg (setAll z.cells parts)))) : Wq P n ds C K ops (⟨some d, .build t ps.toArray, ty, pos, aft, none⟩ :: rest) F := by
  refine Wq.val (fun w _ => ?_) c
  subst hps
  have := run_buildF (P := P) (w := w) hf he hz hp
  simp only [execOp, List.map_toArray, Sem.run_bind]
  rw [this]; rfl
/-- An array of elements of one cell by its parts. -/
theorem Wl.buildA {t e m sz bytes ebytes : Nat} {agg eagg : Bool} {z ez : Value} {ps : List (Nat × Operand)} {parts : List (Nat × Value)} {cs : List Value} [ht : Und P t (.array m e)] [hee : ElT P e 1 ebytes eagg ez] [he : ElT P t sz bytes agg z] (hz : z.cells.size = m) (hps : ps.map (fun p => (p.1, ev n F p.2)) = parts) (hp : ∀ p ∈ parts, p.1 < m ∧ p.2.cells = #[p.2])
    (hcs : setAll z.cells parts = cs.toArray) (c : Wl P n ds Q ops rest (upd F d (.agg cs.toArray)) w) : Wl P n ds Q ops (⟨some d, .build t ps.toArray, ty, pos, aft, none⟩ :: rest) F w := by
  refine Wl.val ?_ c
  subst hps
  have hfill := fill_flat (m := m) (places := fun i => some (i * 1, 1)) _ z.cells hz (fun i _ => by rw [Nat.mul_one]) hp
  have : (Instr.build t (ps.map (fun p => (p.1, ev n F p.2))).toArray).run P w = .ok (.agg cs.toArray) w := by
    simp only [Instr.build, Sem.run_bind, he.zeroValue, Result.andThen_ok, run_underlying ht.h, hee.sizeOf, hfill, hcs, Sem.run_pure]
  simp only [execOp, List.map_toArray, Sem.run_bind]
  rw [this]; rfl
end
end Go.Proofs.YtpnpllghabbhlaaGreatDoor.Wk

namespace Go.Proofs.YtpnpllghabbhlaaGreatDoor.Wk
open Go Go.RowKit

def boundL (ops : Array Oper) (j : Nat) : List Nat := match ops[j]? with | some o => (o.after.toList.filter (Region.binds .any)).map (·.on) | none => []
def availB (ops : Array Oper) (l : List Nat) (j : Nat) : Bool := (boundL ops j).all fun k => !l.contains k
def nextQ (ops : Array Oper) (l : List Nat) : Option Nat := l.find? fun i => isQ ops i && availB ops l i
def okPairG (ops : Array Oper) (i j : Nat) : Bool := (boundL ops j).contains i || (match ops[i]?, ops[j]? with | some oi, some oj => oi.apart ops oj && oj.apart ops oi | _, _ => false)
def okG (ops : Array Oper) : Bool :=
  Region.noSelect ops && (List.range ops.size).all (fun j => (List.range j).all fun i => okPairG ops i j) && (List.range ops.size).all (fun j => (boundL ops j).all fun k => decide (k < j))
def out (j : Nat) (l : List Nat) : List Nat := l.filter fun k => k != j
section
variable {P : Program} {ops : Array Oper} {C : World → Prop} {Q : Exit → Act → World → Prop}
def TG (P : Program) (ops : Array Oper) (C : World → Prop) (Q : Exit → Act → World → Prop) : Nat → List Nat → Act → World → Prop
  | 0, _, a, w => Q .normal a w
  | f + 1, l, a, w => match nextQ ops l with
    | some q => ∃ o v, ops[q]? = some o ∧ YieldsIn P ops C o v a ∧ TG P ops C Q f (out q l) (a.put o.dst v) w
    | none => ∀ j ∈ l, availB ops l j = true → if j + 1 = ops.size then wpOp P ops Q j (fun a' w' => Q .normal a' w') a w else wpOp P ops QF j (fun a' w' => C w' ∧ TG P ops C Q f (out j l) a' w') a w
theorem out_comm (i j : Nat) (l : List Nat) : out i (out j l) = out j (out i l) := by
  unfold out; rw [List.filter_filter, List.filter_filter]; congr 1; funext k; rw [Bool.and_comm]
theorem mem_out {i j : Nat} {l : List Nat} : i ∈ out j l ↔ i ∈ l ∧ i ≠ j := by unfold out; rw [List.mem_filter]; simp
theorem avail_out {i j : Nat} {l : List Nat} (h : availB ops l i = true) : availB ops (out j l) i = true := by
  unfold availB at h ⊢
  rw [List.all_eq_true] at h ⊢
  intro k hk
  have := h k hk
  simp only [Bool.not_eq_true', Bool.eq_false_iff, ne_eq, List.contains_iff_mem] at this ⊢
  exact fun e => this (mem_out.1 e).1
theorem out_len {j : Nat} {l : List Nat} (hn : l.Nodup) (hj : j ∈ l) : (out j l).length + 1 = l.length := by
  have : out j l = l.erase j := by unfold out; rw [hn.erase_eq_filter]
  rw [this, List.length_erase_of_mem hj]
  have := List.length_pos_of_mem hj
  omega
/-- Two that may both come up now stand apart. -/
structure Ap (ops : Array Oper) (i j : Nat) (oi oj : Oper) : Prop where
  ij : oi.apart ops oj = true
  ji : oj.apart ops oi = true
  si : ∀ cs b, oi.op ≠ .select cs b
  sj : ∀ cs b, oj.op ≠ .select cs b
theorem apart_of (hok : okG ops = true) {l : List Nat} {i j : Nat} {oi oj : Oper} (hi : ops[i]? = some oi) (hj : ops[j]? = some oj) (hil : i ∈ l) (hjl : j ∈ l) (ai : availB ops l i = true) (aj : availB ops l j = true) (hne : i ≠ j) : Ap ops i j oi oj := by
  simp only [okG, Bool.and_eq_true] at hok
  obtain ⟨⟨hns, hpair⟩, _⟩ := hok
  have hsel := Region.noSelect_spec hns
  have his := (Array.getElem?_eq_some_iff.1 hi).1
  have hjs := (Array.getElem?_eq_some_iff.1 hj).1
  have key : ∀ {i j : Nat} {oi oj : Oper}, ops[i]? = some oi → ops[j]? = some oj → i ∈ l → availB ops l j = true → i < j → oi.apart ops oj = true ∧ oj.apart ops oi = true := by
    intro i j oi oj hi hj hil aj hij
    have hjs := (Array.getElem?_eq_some_iff.1 hj).1
    have h3 := List.all_eq_true.1 (List.all_eq_true.1 hpair j (List.mem_range.2 hjs)) i (List.mem_range.2 hij)
    unfold okPairG at h3
    simp only [hi, hj, Bool.or_eq_true, Bool.and_eq_true] at h3
    rcases h3 with h3 | h3
    · exfalso
      have := List.all_eq_true.1 aj i (by simpa using h3)
      rw [List.contains_iff_mem.2 hil] at this
      cases this
    · exact h3
  have sel : ∀ {i : Nat} {o : Oper}, ops[i]? = some o → ∀ cs b, o.op ≠ .select cs b := fun h cs b => hsel _ _ cs b h
  rcases Nat.lt_or_ge i j with h | h
  · have := key hi hj hil aj h; exact ⟨this.1, this.2, sel hi, sel hj⟩
  · have := key hj hi hjl ai (by omega); exact ⟨this.2, this.1, sel hi, sel hj⟩
/-- What only reads and may come up now may be taken now, or had been. -/
theorem TG_quiet (hok : okG ops = true) : ∀ (f : Nat) (q : Nat) (oq : Oper), ops[q]? = some oq → isQ ops q = true → ∀ (l : List Nat) (a : Act) (w : World), l.length = f + 1 → l.Nodup → (∀ i ∈ l, i < ops.size) → q ∈ l → availB ops l q = true →
    (TG P ops C Q (f + 1) l a w ↔ ∃ v, YieldsIn P ops C oq v a ∧ TG P ops C Q f (out q l) (a.put oq.dst v) w) := by
  intro f
  induction f with
  | zero =>
    intro q oq hq hqq l a w hl hn hlt hm ha
    obtain ⟨x, rfl⟩ : ∃ x, l = [x] := by cases l with | nil => cases hl | cons x r => cases r with | nil => exact ⟨x, rfl⟩ | cons y s => simp at hl
    obtain rfl : q = x := by simpa using hm
    have hnq : nextQ ops [q] = some q := by simp [nextQ, hqq, ha]
    rw [TG, hnq]
    simp only [hq, Option.some.injEq]
    exact ⟨fun ⟨o, v, e, h⟩ => by cases e; exact ⟨v, h⟩, fun ⟨v, h⟩ => ⟨oq, v, rfl, h⟩⟩
  | succ f ih =>
    intro q oq hq hqq l a w hl hn hlt hm ha
    rw [TG]
    cases hnq : nextQ ops l with
    | none =>
      exfalso
      have := List.find?_eq_none.1 hnq q hm
      simp [hqq, ha] at this
    | some r =>
      have hr := List.find?_some hnq
      have hrm := List.mem_of_find?_eq_some hnq
      simp only [Bool.and_eq_true] at hr
      dsimp only
      by_cases hrq : r = q
      · subst hrq
        simp only [hq, Option.some.injEq]
        exact ⟨fun ⟨o, v, e, h⟩ => by cases e; exact ⟨v, h⟩, fun ⟨v, h⟩ => ⟨oq, v, rfl, h⟩⟩
      · obtain ⟨or', hor⟩ : ∃ o, ops[r]? = some o := ⟨ops[r]'(hlt r hrm), Array.getElem?_eq_getElem (hlt r hrm)⟩
        have ap := apart_of hok hor hq hrm hm hr.2 ha hrq
        have hne := (Oper.apart_spec ap.ij).2.1
        have lr := out_len hn hrm
        have lq := out_len hn hm
        have nr : (out r l).Nodup := hn.filter _
        have nq : (out q l).Nodup := hn.filter _
        have e1 := fun a' => ih q oq hq hqq (out r l) a' w (by omega) nr (fun i hi => hlt i (mem_out.1 hi).1) (mem_out.2 ⟨hm, fun e => hrq e.symm⟩) (avail_out ha)
        have e2 := fun a' => ih r or' hor hr.1 (out q l) a' w (by omega) nq (fun i hi => hlt i (mem_out.1 hi).1) (mem_out.2 ⟨hrm, hrq⟩) (avail_out hr.2)
        constructor
        · rintro ⟨o, vr, eo, hy, ht⟩
          rw [hor] at eo
          cases eo
          obtain ⟨vq, hyq, ht2⟩ := (e1 _).1 ht
          refine ⟨vq, (yields_unput ap.ij ap.sj).1 hyq, (e2 _).2 ⟨vr, (yields_unput ap.ji ap.si).2 hy, ?_⟩⟩
          rw [out_comm, ← Act.put_comm a vr vq hne]
          exact ht2
        · rintro ⟨vq, hyq, ht⟩
          obtain ⟨vr, hyr, ht2⟩ := (e2 _).1 ht
          refine ⟨or', vr, hor, (yields_unput ap.ji ap.si).1 hyr, (e1 _).2 ⟨vq, (yields_unput ap.ij ap.sj).2 hyq, ?_⟩⟩
          rw [out_comm, Act.put_comm a vr vq hne]
          exact ht2
/-- Another operation that may come up now may be taken first. -/
theorem TG_chain (hok : okG ops = true) {j : Nat} {oj : Oper} (hj : ops[j]? = some oj) (hjq : isQ ops j = false) (hjl : j + 1 ≠ ops.size) : ∀ (f : Nat) (l : List Nat) (a : Act) (w : World), l.length = f + 1 → l.Nodup → (∀ i ∈ l, i < ops.size) → j ∈ l → availB ops l j = true →
    TG P ops C Q (f + 1) l a w → wpOp P ops QF j (fun a' w' => C w' ∧ TG P ops C Q f (out j l) a' w') a w := by
  intro f
  induction f with
  | zero =>
    intro l a w hl hn hlt hm ha h
    obtain ⟨x, rfl⟩ : ∃ x, l = [x] := by cases l with | nil => cases hl | cons x r => cases r with | nil => exact ⟨x, rfl⟩ | cons y s => simp at hl
    obtain rfl : j = x := by simpa using hm
    have hnq : nextQ ops [j] = none := by simp [nextQ, hjq]
    rw [TG, hnq] at h
    have := h j (by simp) ha
    rwa [if_neg hjl] at this
  | succ f ih =>
    intro l a w hl hn hlt hm ha h
    have h0 := h
    rw [TG] at h
    cases hnq : nextQ ops l with
    | none =>
      rw [hnq] at h
      have := h j hm ha
      rwa [if_neg hjl] at this
    | some r =>
      have hr := List.find?_some hnq
      have hrm := List.mem_of_find?_eq_some hnq
      simp only [Bool.and_eq_true] at hr
      obtain ⟨or', hor⟩ : ∃ o, ops[r]? = some o := ⟨ops[r]'(hlt r hrm), Array.getElem?_eq_getElem (hlt r hrm)⟩
      have hrj : r ≠ j := fun e => by rw [e, hjq] at hr; cases hr.1
      have ap := apart_of hok hor hj hrm hm hr.2 ha hrj
      have lr := out_len hn hrm
      have lj := out_len hn hm
      have nr : (out r l).Nodup := hn.filter _
      have nj : (out j l).Nodup := hn.filter _
      obtain ⟨v, hy, ht⟩ := (TG_quiet hok (f + 1) r or' hor hr.1 l a w hl hn hlt hrm hr.2).1 h0
      have hw := ih (out r l) _ w (by omega) nr (fun i hi => hlt i (mem_out.1 hi).1) (mem_out.2 ⟨hm, fun e => hrj e.symm⟩) (avail_out ha) ht
      refine wpOp_mono (fun a' w' h' => ?_) (wpOp_put hj ap.ij ap.si ap.sj hy hw)
      obtain ⟨hy', hC', ht'⟩ := h'
      refine ⟨hC', (TG_quiet hok f r or' hor hr.1 (out j l) a' w' (by omega) nj (fun i hi => hlt i (mem_out.1 hi).1) (mem_out.2 ⟨hrm, hrj⟩) (avail_out hr.2)).2 ⟨v, hy', ?_⟩⟩
      rw [out_comm]; exact ht'
def okGL (ops : Array Oper) : Bool := okG ops && (isQ ops (ops.size - 1) || (List.range ops.size).all fun k => (ahead ops ops.size [ops.size - 1]).contains k)
theorem wpAny_of_TG (hok2 : okGL ops = true) : ∀ (fuel : Nat) (listed : Array Bool) (a : Act) (w : World), listed.size = ops.size → (left ops listed).length = fuel → Clos ops listed → (fuel ≠ 0 → C w) → TG P ops C Q fuel (left ops listed) a w → wpAny P .any ops Q fuel listed a w := by
  have hok : okG ops = true := by unfold okGL at hok2; simp only [Bool.and_eq_true] at hok2; exact hok2.1
  have hlast : (isQ ops (ops.size - 1) || (List.range ops.size).all fun k => (ahead ops ops.size [ops.size - 1]).contains k) = true := by unfold okGL at hok2; simp only [Bool.and_eq_true] at hok2; exact hok2.2
  have hdown : ∀ (j : Nat) (o : Oper), ops[j]? = some o → ∀ e ∈ o.after, Region.binds .any e = true → e.on < j := by
    intro j o ho e he hb
    have := hok
    simp only [okG, Bool.and_eq_true] at this
    have h3 := List.all_eq_true.1 this.2 j (List.mem_range.2 (Array.getElem?_eq_some_iff.1 ho).1)
    have hm : e.on ∈ boundL ops j := by
      unfold boundL; rw [ho]
      exact List.mem_map.2 ⟨e, List.mem_filter.2 ⟨by simpa using he, hb⟩, rfl⟩
    exact of_decide_eq_true (List.all_eq_true.1 h3 _ hm)
  have rdy : ∀ listed : Array Bool, listed.size = ops.size → ∀ i, i ∈ Region.ready .any ops listed → i ∈ left ops listed ∧ availB ops (left ops listed) i = true := by
    intro listed hs i hi
    obtain ⟨h0, o, ho, hall⟩ := mem_ready.1 hi
    refine ⟨?_, ?_⟩
    · unfold left
      rw [List.mem_filter, List.mem_range]
      exact ⟨(Array.getElem?_eq_some_iff.1 ho).1, by simp [h0]⟩
    · unfold availB boundL
      rw [ho, List.all_eq_true]
      intro k hk
      obtain ⟨e, he, rfl⟩ := List.mem_map.1 hk
      rw [List.mem_filter] at he
      have h1 := hall e (by simpa using he.1) he.2
      simp only [Bool.not_eq_true', Bool.eq_false_iff, ne_eq, List.contains_iff_mem]
      intro hm
      unfold left at hm
      rw [List.mem_filter, List.mem_range] at hm
      have hlt : e.on < listed.size := by rw [hs]; exact hm.1
      have h2 := hm.2
      simp [Array.getD_eq_getD_getElem?, Array.getElem?_eq_getElem hlt] at h1 h2
      rw [h1] at h2; cases h2
  intro fuel
  induction fuel with
  | zero =>
    intro listed a w hs hl hcl hC h
    have hnil : left ops listed = [] := List.eq_nil_of_length_eq_zero hl
    refine ⟨?_, h⟩
    rw [List.eq_nil_iff_forall_not_mem]
    intro i hi
    have := (rdy listed hs i hi).1
    rw [hnil] at this
    cases this
  | succ fuel ih =>
    intro listed a w hs hl hcl hC h
    replace hC := hC (by simp)
    have hnd : (left ops listed).Nodup := List.Nodup.sublist List.filter_sublist List.nodup_range
    have hunl : ∀ i ∈ left ops listed, i < ops.size ∧ listed.getD i true = false := fun i hi => by
      unfold left at hi
      rw [List.mem_filter, List.mem_range] at hi
      exact ⟨hi.1, by simpa using hi.2⟩
    refine ⟨fun h0 => ?_, fun j hj => ?_⟩
    · exfalso
      cases hL : left ops listed with
      | nil => rw [hL] at hl; cases hl
      | cons i l =>
        have hmem : i ∈ left ops listed := by rw [hL]; simp
        obtain ⟨his, hun⟩ := hunl i hmem
        have hall : ∀ k, k < i → listed.getD k false = true := by
          intro k hk
          have hks : k < ops.size := by omega
          cases hb : listed.getD k true with
          | true => simpa [Array.getD_eq_getD_getElem?, hs, hks] using hb
          | false =>
            have hkm : k ∈ left ops listed := by unfold left; rw [List.mem_filter, List.mem_range]; exact ⟨hks, by simp [hb]⟩
            have hsort : (left ops listed).Pairwise (· < ·) := List.Pairwise.sublist List.filter_sublist List.pairwise_lt_range
            rw [hL] at hkm hsort
            rcases List.mem_cons.1 hkm with e | e
            · omega
            · have := (List.pairwise_cons.1 hsort).1 k e; omega
        have : i ∈ Region.ready .any ops listed := mem_ready.2 ⟨hun, ops[i], Array.getElem?_eq_getElem his, fun e he hb => hall e.on (hdown i _ (Array.getElem?_eq_getElem his) e he hb)⟩
        rw [h0] at this
        cases this
    · obtain ⟨hjm, hja⟩ := rdy listed hs j hj
      have hjs := (hunl j hjm).1
      have hoj : ops[j]? = some ops[j] := Array.getElem?_eq_getElem hjs
      have hset : left ops (listed.setIfInBounds j true) = out j (left ops listed) := left_set hs hjs
      have hlen := out_len hnd hjm
      have hcl' := hcl.set hj
      have hlen' : (left ops (listed.setIfInBounds j true)).length = fuel := by rw [hset]; omega
      cases hjq : isQ ops j with
      | true =>
        obtain ⟨v, hy, ht⟩ := (TG_quiet hok fuel j _ hoj hjq (left ops listed) a w hl hnd (fun i hi => (hunl i hi).1) hjm hja).1 h
        have hrj : readB ops[j].op = true := by unfold isQ at hjq; rw [hoj] at hjq; exact hjq
        exact YieldsS.wpOp hoj hy hrj hC (ih _ _ w (by simpa using hs) hlen' hcl' (fun _ => hC) (by rw [hset]; exact ht))
      | false =>
        by_cases hjl : j + 1 = ops.size
        · have hj1 : ops.size - 1 = j := by omega
          rw [hj1, hjq, Bool.false_or] at hlast
          have hbehind : ∀ k, k ∈ ahead ops ops.size [j] → k = j ∨ listed.getD k false = true := ahead_spec hcl hj _ _ (by simp)
          have all : ∀ i ∈ left ops listed, i = j := fun i hi => by
            obtain ⟨his, hun⟩ := hunl i hi
            rcases hbehind i (by simpa using List.all_eq_true.1 hlast i (List.mem_range.2 his)) with e | e
            · exact e
            · simp [Array.getD_eq_getD_getElem?, hs, his] at hun e
              rw [hun] at e; cases e
          have hL : left ops listed = [j] := by
            cases hh : left ops listed with
            | nil => rw [hh] at hl; cases hl
            | cons x r =>
              rw [hh] at all hnd
              obtain rfl := all x (by simp)
              cases r with
              | nil => rfl
              | cons y s =>
                have := all y (by simp)
                subst this
                exact absurd (by simp) (List.nodup_cons.1 hnd).1
          have hf : fuel = 0 := by rw [hL] at hl; simpa using hl.symm
          subst hf
          rw [hL] at h hja
          have hnq : nextQ ops [j] = none := by simp [nextQ, hjq]
          rw [TG, hnq] at h
          have hw := h j (by simp) hja
          rw [if_pos hjl] at hw
          exact wpOp_mono (fun a' w' h' => ih _ a' w' (by simpa using hs) hlen' hcl' (fun hne => absurd rfl hne) h') hw
        · exact wpOp_of_QF (fun a' w' h' => ih _ a' w' (by simpa using hs) hlen' hcl' (fun _ => h'.1) (by rw [hset]; exact h'.2)) (TG_chain hok hoj hjq hjl fuel (left ops listed) a w hl hnd (fun i hi => (hunl i hi).1) hjm hja h)
end
section
variable {P : Program} {n : Nat} {ds : List Deferred} {Q : Po} {F : Fr} {ops : List Oper} {C : World → Prop} {w : World}
/-- The walk that parts: by frames. -/
def Wg (P : Program) (n : Nat) (ds : List Deferred) (C : World → Prop) (Q : Po) (ops : List Oper) : Nat → List Nat → Fr → World → Prop
  | 0, _, F, w => Q .normal F w
  | f + 1, l, F, w => match nextQ ops.toArray l with
    | some q => ∃ o, ops[q]? = some o ∧ Wq P n ds C (fun F' => Wg P n ds C Q ops f (out q l) F' w) ops [o] F
    | none => ∀ j ∈ l, availB ops.toArray l j = true → ∃ o, ops[j]? = some o ∧ (if j + 1 = ops.length then Wl P n ds Q ops [o] F w else Wl P n ds (fun e F' w' => e = .normal ∧ C w' ∧ Wg P n ds C Q ops f (out j l) F' w') ops [o] F w)
theorem Wg.nil {l : List Nat} (h : Q .normal F w) : Wg P n ds C Q ops 0 l F w := h
theorem Wg.quiet {f q : Nat} {l l' : List Nat} {o : Oper} (h : nextQ ops.toArray l = some q) (ho : ops[q]? = some o) (hl : out q l = l') (k : Wq P n ds C (fun F' => Wg P n ds C Q ops f l' F' w) ops [o] F) : Wg P n ds C Q ops (f + 1) l F w := by
  subst hl
  rw [Wg, h]
  exact ⟨o, ho, k⟩
theorem Wg.one {f j : Nat} {l l' : List Nat} {o : Oper} (h : nextQ ops.toArray l = none) (hr : l.filter (availB ops.toArray l) = [j]) (ho : ops[j]? = some o) (hjl : Nat.beq (j + 1) ops.length = false) (hl : out j l = l')
    (k : Wl P n ds (fun e F' w' => e = .normal ∧ C w' ∧ Wg P n ds C Q ops f l' F' w') ops [o] F w) : Wg P n ds C Q ops (f + 1) l F w := by
  subst hl
  rw [Wg, h]
  intro i hi ha
  have hm : i ∈ l.filter (availB ops.toArray l) := List.mem_filter.2 ⟨hi, ha⟩
  rw [hr] at hm
  obtain rfl : i = j := by simpa using hm
  exact ⟨o, ho, by rw [if_neg (Nat.ne_of_beq_eq_false hjl)]; exact k⟩
theorem Wg.two {f j1 j2 : Nat} {l l1 l2 : List Nat} {o1 o2 : Oper} (h : nextQ ops.toArray l = none) (hr : l.filter (availB ops.toArray l) = [j1, j2]) (ho1 : ops[j1]? = some o1) (ho2 : ops[j2]? = some o2)
    (hjl1 : Nat.beq (j1 + 1) ops.length = false) (hjl2 : Nat.beq (j2 + 1) ops.length = false) (hl1 : out j1 l = l1) (hl2 : out j2 l = l2)
    (k1 : Wl P n ds (fun e F' w' => e = .normal ∧ C w' ∧ Wg P n ds C Q ops f l1 F' w') ops [o1] F w) (k2 : Wl P n ds (fun e F' w' => e = .normal ∧ C w' ∧ Wg P n ds C Q ops f l2 F' w') ops [o2] F w) : Wg P n ds C Q ops (f + 1) l F w := by
  subst hl1
  subst hl2
  rw [Wg, h]
  intro i hi ha
  have hm : i ∈ l.filter (availB ops.toArray l) := List.mem_filter.2 ⟨hi, ha⟩
  rw [hr] at hm
  have : i = j1 ∨ i = j2 := by simpa using hm
  rcases this with rfl | rfl
  · exact ⟨o1, ho1, by rw [if_neg (Nat.ne_of_beq_eq_false hjl1)]; exact k1⟩
  · exact ⟨o2, ho2, by rw [if_neg (Nat.ne_of_beq_eq_false hjl2)]; exact k2⟩
theorem Wg.last {f j : Nat} {l : List Nat} {o : Oper} (h : nextQ ops.toArray l = none) (hr : l = [j]) (ho : ops[j]? = some o) (hjl : j + 1 = ops.length) (k : Wl P n ds Q ops [o] F w) : Wg P n ds C Q ops (f + 1) l F w := by
  rw [Wg, h]
  subst hr
  intro i hi ha
  obtain rfl : i = j := by simpa using hi
  exact ⟨o, ho, by rw [if_pos hjl]; exact k⟩
theorem TG_of_Wg : ∀ (f : Nat) (l : List Nat) (F : Fr) (w : World), Wg P n ds C Q ops f l F w → TG P ops.toArray C (QA n ds Q) f l (act n ds F) w
  | 0, l, F, w, h => ⟨F, rfl, h⟩
  | f + 1, l, F, w, h => by
    rw [TG]
    rw [Wg] at h
    cases hq : nextQ ops.toArray l with
    | some q =>
      rw [hq] at h
      obtain ⟨o, ho, h⟩ := h
      have ho' : ops.toArray[q]? = some o := by simpa using ho
      unfold Wq at h
      have hst : qOp P ops.toArray C q (fun a => ∃ F', a = act n ds F' ∧ Wg P n ds C Q ops f (out q l) F' w) (act n ds F) := by unfold qOp; simp only [ho']; exact h
      obtain ⟨v, hy, F', hF, hw⟩ := yieldsIn_of_qOp ho' hst
      refine ⟨o, v, ho', hy, ?_⟩
      rw [hF]
      exact TG_of_Wg f (out q l) F' w hw
    | none =>
      rw [hq] at h
      intro j hj ha
      obtain ⟨o, ho, h⟩ := h j hj ha
      have hsz : ops.toArray.size = ops.length := by simp
      rw [hsz]
      split
      · rename_i he
        rw [if_pos he] at h
        exact wpOp_of_Wl ho h
      · rename_i he
        rw [if_neg he] at h
        refine wpOp_noQ ?_ ?_ (wpOp_of_Wl ho h)
        · rintro e a' w' hne ⟨F', _, h', _⟩; exact hne h'
        · rintro a' w' ⟨F', rfl, _, hC, h'⟩
          exact ⟨hC, TG_of_Wg f (out j l) F' w' h'⟩
/-- A region that draws its order, by a walk that parts. -/
theorem Wc.regionG {rid m : Nat} (hm : P.follows .mixedOrders = true) (hB : okGL ops.toArray = true) (C : World → Prop) (hC : C w.drew) (hlen : ops.length = m) (h : ∀ w', New w w' → Wg P n ds C Q ops m (List.range m) F w') : Wc P n ds Q (.region rid ops.toArray true) F w := by
  subst hlen
  unfold Wc
  refine wp_region_any hm ?_
  have hleft : left ops.toArray (Array.replicate ops.toArray.size false) = List.range ops.length := by
    unfold left
    simp only [List.size_toArray]
    refine List.filter_eq_self.2 fun k hk => ?_
    have := List.mem_range.1 hk
    simp [Array.getD_eq_getD_getElem?, Array.getElem?_replicate, this]
  have h0 : Clos ops.toArray (Array.replicate ops.toArray.size false) := by
    intro j o hj
    exfalso
    simp only [Array.getD_eq_getD_getElem?, Array.getElem?_replicate] at hj
    split at hj <;> simp at hj
  refine wpAny_of_TG (C := C) hB _ _ _ _ (by simp) (by rw [hleft]; simp) h0 (fun _ => hC) ?_
  rw [hleft]
  have := TG_of_Wg ops.length (List.range ops.length) F w.drew (h _ (Chg.drew _ _))
  simpa using this
end
attribute [irreducible] Wg
end Go.Proofs.YtpnpllghabbhlaaGreatDoor.Wk

namespace Go.Proofs.YtpnpllghabbhlaaGreatDoor.Wk
open Go Go.RowKit

/-- A contract's post: it returned a value of which φ is known, or panicked, and X is known. -/
def RetX (φ : Value → World → Prop) (X : List PanicEntry → World → Prop) : Ending → World → Prop
  | .returned v, w => φ v w
  | .panicked c, w => X c w
  | .outgrown, _ => False
section
variable {P : Program} {n : Nat} {ds : List Deferred} {Q : Po} {F : Fr} {w w' : World} {ops rest : List Oper} {d : Nat} {ty : TypeId} {pos : String} {aft : Array Edge}
theorem RetX.mono {f : FuncId} {args : Array Value} {φ φ' : Value → World → Prop} {X X' : List PanicEntry → World → Prop} (h : Calls P f args w (RetX φ X)) (h1 : ∀ v w, φ v w → φ' v w) (h2 : ∀ c w, X c w → X' c w) : Calls P f args w (RetX φ' X') :=
  Calls.mono h fun e w' he => by cases e with | returned v => exact h1 _ _ he | panicked c => exact h2 _ _ he | outgrown => exact he.elim
theorem Wl.callX {dst : Option Nat} {args : List Operand} {ts : Array TypeId} {f : FuncId} {vs : List Value} {φ : Value → World → Prop} {X : List PanicEntry → World → Prop}
    [hc : Callable P f] (h : Calls P f vs.toArray w (RetX φ X)) (ha : args.map (ev n F) = vs) (kx : ∀ c w', X c w' → Q (.panic c) F w') (k : ∀ v w', φ v w' → Wl P n ds Q ops rest (updO F dst v) w') :
    Wl P n ds Q ops (⟨dst, .call { callee := .value (.func f), args := args.toArray, argTypes := ts }, ty, pos, aft, none⟩ :: rest) F w := by
  unfold Wl
  refine wpList_plain rfl fun K hK => ?_
  unfold Oper.wp
  have e : (execOp (ev n F) ⟨dst, .call { callee := .value (.func f), args := args.toArray, argTypes := ts }, ty, pos, aft, none⟩).run P w = .ok (.enter f vs.toArray) w := by
    subst ha
    simp only [execOp, resolve, ev, Deferred.ofValue, Sem.run_bind, Sem.run_pure, Result.andThen_ok, invoke, run_callFunc hc]
    congr 3
    apply Array.ext'
    simp
  rw [act_eval', e, Oper.upon_enter]
  refine h.mono ?_
  intro e w'' hv
  cases e with
  | returned v =>
    dsimp only
    refine hK _ _ ?_
    rw [act_putO]
    have := k v w'' hv
    unfold Wl at this
    exact this
  | panicked c => exact ⟨F, rfl, kx c w'' hv⟩
  | outgrown => exact hv.elim
/-- What the program's own 'panic' raises. -/
abbrev chainOf (v : Value) : List PanicEntry := [{ v := v, recovered := false }]
theorem Wl.panic {x : Operand} {t : TypeId} {v : Value} (hx : ev n F x = .iface t v) (k : Q (.panic (chainOf (.iface t v))) F w) :
    Wl P n ds Q ops (⟨none, .panic x, ty, pos, aft, none⟩ :: rest) F w := by
  unfold Wl
  refine wpList_plain rfl fun K hK => ?_
  unfold Oper.wp
  have e : (execOp (ev n F) ⟨none, .panic x, ty, pos, aft, none⟩).run P w = .halt (.panic (.iface t v)) w := by
    simp only [execOp, hx, Sem.run_bind, run_panic_iface]; rfl
  rw [act_eval', e]
  exact ⟨F, rfl, k⟩
theorem Qfn.panic {fn : Func} {R : Ending → World → Prop} {c : List PanicEntry} (k : R (.panicked c) w) : Qfn P n fn R (.panic c) F w := by unfold Qfn; exact k

/-! Results that lie in variables. -/
def rvOf (tmps : Array Value) : ResultVar → Sem Value
  | .tmp t => pure (tmps.getD t undef)
  | .cell a t => do loadVar t (← asAddr (tmps.getD a undef))
theorem rvOf_tmp {t : Nat} (ht : Nat.blt t n = true) : (rvOf (arr n F) (.tmp t)).run P w = .ok (F t) w := by
  simp only [rvOf, Sem.run_pure]
  rw [Array.getD_eq_getD_getElem?, arr_get, if_pos (by rwa [Nat.blt_eq] at ht)]; rfl
theorem rvOf_one {a e bytes b : Nat} {z u : Value} {T : TypeId} [he : ElT P e 1 bytes false z] (ht : Nat.blt a n = true) (hF : F a = .pointer (some ⟨b, 0, none⟩)) (hb : Bk w b T [u]) : (rvOf (arr n F) (.cell a e)).run P w = .ok u w := by
  have e1 : (arr n F).getD a undef = .pointer (some ⟨b, 0, none⟩) := by rw [Array.getD_eq_getD_getElem?, arr_get, if_pos (by rwa [Nat.blt_eq] at ht)]; exact hF
  have := hb.cell (o := 0) (u := u) rfl
  simp only [rvOf, e1]
  simp [asAddr, loadVar, he.isAgg, this]
theorem rvOf_agg {a e sz bytes b : Nat} {z : Value} {T : TypeId} {cs : List Value} [he : ElT P e sz bytes true z] (ht : Nat.blt a n = true) (hF : F a = .pointer (some ⟨b, 0, none⟩)) (hb : Bk w b T cs) (hl : cs.length = sz) : (rvOf (arr n F) (.cell a e)).run P w = .ok (.agg cs.toArray) w := by
  have e1 : (arr n F).getD a undef = .pointer (some ⟨b, 0, none⟩) := by rw [Array.getD_eq_getD_getElem?, arr_get, if_pos (by rwa [Nat.blt_eq] at ht)]; exact hF
  have := run_loadCells_list (P := P) w ⟨b, 0, none⟩ cs (fun j u hu => by rw [addr_add, Nat.zero_add]; exact hb.cell hu)
  simp only [rvOf, e1]
  simp [asAddr, loadVar, he.isAgg, he.sizeOf, ← hl, this]
theorem results_rv {fn : Func} {tmps : Array Value} : results fn tmps = (do let vs ← fn.results.mapM (rvOf tmps); pure (if h : vs.size = 1 then vs[0] else .tuple vs)) := by
  unfold results
  congr 1
theorem results1 {fn : Func} {a : ResultVar} {u : Value} (h : fn.results = #[a]) (h1 : (rvOf (arr n F) a).run P w = .ok u w) : (results fn (arr n F)).run P w = .ok u w := by
  rw [results_rv, h]
  simp [h1]
theorem results2 {fn : Func} {a b : ResultVar} {u v : Value} (h : fn.results = #[a, b]) (h1 : (rvOf (arr n F) a).run P w = .ok u w) (h2 : (rvOf (arr n F) b).run P w = .ok v w) : (results fn (arr n F)).run P w = .ok (.tuple #[u, v]) w := by
  rw [results_rv, h]
  simp [h1, h2]
theorem Qfn.retR {fn : Func} {R : Ending → World → Prop} {v : Value} (h : (results fn (arr n F)).run P w = .ok v w) (k : R (.returned v) w) : Qfn P n fn R .ret F w := by
  unfold Qfn; exact ⟨v, h, k⟩

/-! A function whose second statement defers a closure; what leaves it. -/
def Qd (P : Program) (n : Nat) (fn : Func) (R : Ending → World → Prop) (ds : List Deferred) : Po
  | .normal, F, w | .ret, F, w => Leaves P fn (arr n F) R ds .returning w
  | .panic chain, F, w => Leaves P fn (arr n F) R ds (.panicking chain) w
  | .outgrown, _, w => R .outgrown w
  | _, _, _ => False
theorem calls_of_defer {f : FuncId} {fn : Func} {c1 c3 : Code} {id : Nat} {t g : Nat} {cap : List Operand} {l : List Value} {R : Ending → World → Prop} {ty1 ty2 : TypeId} {p1 p2 : String} {e1 e2 : Array Edge} {ts : Array TypeId}
    (hf : P.funcs[f]? = some fn) (hb : fn.body = some (.seq c1 (.seq (.region id [⟨some t, .makeFunc (.func g) #[] cap.toArray, ty1, p1, e1, none⟩, ⟨none, .defer { callee := .value (.tmp t), args := #[], argTypes := ts }, ty2, p2, e2, none⟩].toArray false) c3)))
    (hn : fn.ntmps = n) (hl : Nat.ble l.length n = true) (ht : Nat.blt t n = true)
    (h : Wc P n [] (fun e F w' => e = .normal ∧ Wc P n [⟨.fn (.func g) (cap.map (ev n F)).toArray, #[]⟩] (Qd P n fn R [⟨.fn (.func g) (cap.map (ev n F)).toArray, #[]⟩]) c3 (upd F t (.func (.func g) #[] (cap.map (ev n F)).toArray)) w') c1 (ofArgs l) w) :
    Calls P f l.toArray w R := by
  refine calls_of_wp_defers hf hb ?_
  rw [hn, act_ofArgs l n (Nat.le_of_ble_eq_true hl)]
  unfold Wc at h
  refine wp_seq (wp_mono h ?_)
  rintro e a w1 ⟨F, rfl, rfl, hq⟩
  refine wp_seq (wp_region_lit ?_)
  refine wpList_plain rfl fun K hK => ?_
  unfold Oper.wp
  have e1 : (execOp (ev n F) ⟨some t, .makeFunc (.func g) #[] cap.toArray, ty1, p1, e1, none⟩).run P w1 = .ok (.value (.func (.func g) #[] (cap.map (ev n F)).toArray)) w1 := by
    simp [execOp, Instr.makeFunc]
  rw [act_eval', e1, Oper.upon_value, act_put]
  refine hK _ _ ?_
  refine wpList_plain rfl fun K hK => ?_
  unfold Oper.wp
  have e2 : (execOp (ev n (upd F t (.func (.func g) #[] (cap.map (ev n F)).toArray))) ⟨none, .defer { callee := .value (.tmp t), args := #[], argTypes := ts }, ty2, p2, e2, none⟩).run P w1 = .ok (.defer ⟨.fn (.func g) (cap.map (ev n F)).toArray, #[]⟩) w1 := by
    simp only [execOp, resolve, ev, ht, upd_eq, if_pos]
    simp [Deferred.ofValue]
  rw [act_eval', e2, Oper.upon_defer]
  refine hK _ _ ?_
  unfold wpList
  refine wp_mono hq ?_
  rintro e a w2 ⟨F2, rfl, hq2⟩
  unfold Qd at hq2
  cases e <;> exact hq2
end
end Go.Proofs.YtpnpllghabbhlaaGreatDoor.Wk

namespace Go.Proofs.YtpnpllghabbhlaaGreatDoor
open Go Wk
open Go.RowKit (Below)
attribute [local irreducible] Go.Calls

theorem Wk.Wl.mapInsP {P : Program} {n : Nat} {ds : List Deferred} {Q : Po} {F : Fr} {w : World} {ops rest : List Oper} {ty : TypeId} {pos : String} {aft : Array Edge} {x i y : Operand} {t k e : TypeId} {b : Nat} {l : List (Value × Value)} {key u : Value} {q : Lit} [ht : Und P t (.map k e)] (Kd : Maps.Keyed P k) (h : MapL P k w b l) (hq : keyOf P k key = some q) (hn : ∀ p ∈ l, p.1 ≠ key)
    (hx : ev n F x = .map (some b)) (hi : ev n F i = key) (hy : ev n F y = u) (c : ∀ w', MapL P k w' b (l ++ [(key, u)]) → Chg (fun j => j = b) w w' → w'.heap.size = w.heap.size → Wl P n ds Q ops rest F w') :
    Wl P n ds Q ops (⟨none, .insert t x i y, ty, pos, aft, none⟩ :: rest) F w := by
  have hlt := h.lt
  obtain ⟨es, clock, hh, rfl, hk⟩ := h
  have hg := run_getObj_map (P := P) w b es clock hh
  rcases Kd.find w hq es.toList hk with ⟨hf, _⟩ | ⟨j, e0, hf, hj, rfl⟩
  · have h1 : (w.heap.setIfInBounds b (.map (es.push { key, val := u, born := clock }) (clock + 1)))[b]? = some (.map (es.push { key, val := u, born := clock }) (clock + 1)) := by simp [Array.getElem?_setIfInBounds, hlt]
    have hset : (setObj b (.map (es.push { key, val := u, born := clock }) (clock + 1))).run P w = .ok () { w with heap := w.heap.setIfInBounds b (.map (es.push { key, val := u, born := clock }) (clock + 1)) } := by simp [setObj, Sem.run, hh]
    refine Wl.unit (w' := { w with heap := w.heap.setIfInBounds b (.map (es.push { key, val := u, born := clock }) (clock + 1)) }) ?_ (c _ ⟨_, _, h1, by simp, fun e he => ?_⟩ ⟨rfl, rfl, rfl, by simp, fun j _ hj => Array.getElem?_setIfInBounds_ne (Ne.symm hj)⟩ (by simp))
    · simp [execOp, hx, hi, hy, Instr.mapUpdate, run_underlying ht.h, hg, Kd.check w _ hq, hf, hset]
    · simp only [Array.toList_push, List.mem_append, List.mem_singleton] at he
      rcases he with he | rfl
      · exact hk e he
      · exact ⟨q, hq⟩
  · exfalso
    have hm := List.mem_of_getElem? hj
    exact hn (e0.key, e0.val) (List.mem_map.2 ⟨e0, hm, rfl⟩) rfl
theorem kS : Maps.Keyed Tryz.prog 9 := Maps.string_keyed Tryz.underlying9
theorem keyS (s : List UInt8) (h : s.length ≤ maxLen) : ∃ q, keyOf Tryz.prog 9 (vs s) = some q :=
  ⟨_, WideMaps.keyOf_string_mk Tryz.underlying9 (by simpa only [ByteArray.size, List.size_toArray] using h)⟩
theorem vs_inj {a b : List UInt8} (h : vs a = vs b) : a = b := by
  injection h with h; injection h with h; exact Array.mk.inj h
def ordL : List (Value × Value) := (ordW.zip ordF).map fun e => (vs e.1, vs e.2)
theorem ordL_at {i : Nat} (hi : i < 37) : ordL[i]? = some (vs (ordW.getD i []), vs (ordF.getD i [])) := by
  have h1 : ordW[i]? = some (ordW.getD i []) := by rw [List.getD_eq_getElem?_getD, List.getElem?_eq_getElem (by rw [ord_len.1]; exact hi)]; rfl
  have h2 : ordF[i]? = some (ordF.getD i []) := by rw [List.getD_eq_getElem?_getD, List.getElem?_eq_getElem (by rw [ord_len.2]; exact hi)]; rfl
  unfold ordL
  rw [List.getElem?_map, show (ordW.zip ordF)[i]? = some (ordW.getD i [], ordF.getD i []) from List.getElem?_zip_eq_some.2 ⟨h1, h2⟩]; rfl
theorem ordW_small : ∀ s ∈ ordW, s.length ≤ 10 := by decide
theorem ordL_new {i : Nat} (hi : i < 37) : ∀ p ∈ ordL.take i, p.1 ≠ vs (ordW.getD i []) := by
  intro p hp e
  obtain ⟨j, hj⟩ := List.mem_iff_getElem?.1 hp
  have hlt := (List.getElem?_eq_some_iff.1 hj).1
  rw [List.length_take] at hlt
  rw [List.getElem?_take_of_lt (by omega), ordL_at (by omega)] at hj
  obtain rfl := Option.some.inj hj
  have e1 := vs_inj e
  have h1 : ordW[j]? = some (ordW.getD j []) := by rw [List.getD_eq_getElem?_getD, List.getElem?_eq_getElem (by rw [ord_len.1]; omega)]; rfl
  have h2 : ordW[i]? = some (ordW.getD i []) := by rw [List.getD_eq_getElem?_getD, List.getElem?_eq_getElem (by rw [ord_len.1]; omega)]; rfl
  have : j = i := (List.getElem?_inj (by rw [ord_len.1]; omega) ord_apart).1 (by rw [h1, h2, e1])
  omega
section
variable {n : Nat} {ds : List Deferred} {Q : Po} {F : Fr} {w0 w : World} {ops rest : List Oper} {ty : TypeId} {pos : String} {aft : Array Edge} {x y z : Operand}
theorem ins_step {b : Nat} (i : Nat) (hi : i < 37) (h : MapL Tryz.prog 9 w b (ordL.take i)) (n0 : New w0 w) (hb : w0.heap.size ≤ b) (hx : ev n F x = .map (some b)) (hk : ev n F y = vs (ordW.getD i [])) (hv : ev n F z = vs (ordF.getD i []))
    (c : ∀ w', MapL Tryz.prog 9 w' b (ordL.take (i + 1)) → New w0 w' → Wl Tryz.prog n ds Q ops rest F w') :
    Wl Tryz.prog n ds Q ops (⟨none, .insert 75 x y z, ty, pos, aft, none⟩ :: rest) F w := by
  have hmem : ordW.getD i [] ∈ ordW := by
    rw [List.getD_eq_getElem?_getD, List.getElem?_eq_getElem (by rw [ord_len.1]; exact hi)]
    exact List.getElem_mem _
  have hs := ordW_small _ hmem
  obtain ⟨q, hq⟩ := keyS (ordW.getD i []) (by simp only [maxLen]; omega)
  refine Wk.Wl.mapInsP kS h hq (ordL_new hi) hx hk hv fun w' m c' s => c w' ?_ ((Chg.trans n0.any c' fun _ _ e => e).toNew fun k hk e => by omega)
  rw [List.take_add_one, ordL_at hi]
  exact m
end
theorem ord_mem {s : List UInt8} {r : Value} (h : (vs s, r) ∈ ordL) : ∃ f, r = vs f ∧ lettersOf s = some f ∧ f ∈ ordF := by
  obtain ⟨i, hi⟩ := List.mem_iff_getElem?.1 h
  have hlt : i < 37 := by
    have := (List.getElem?_eq_some_iff.1 hi).1
    unfold ordL at this
    rwa [List.length_map, List.length_zip, ord_len.1, ord_len.2] at this
  rw [ordL_at hlt] at hi
  have e := Option.some.inj hi
  have e1 := vs_inj (congrArg Prod.fst e)
  have e2 := congrArg Prod.snd e
  dsimp only at e1 e2
  obtain ⟨x, f, hx, hf, hl⟩ := letters_at hlt
  have hx' : ordW.getD i [] = x := by rw [List.getD_eq_getElem?_getD, hx]; rfl
  have hf' : ordF.getD i [] = f := by rw [List.getD_eq_getElem?_getD, hf]; rfl
  rw [hx'] at e1
  rw [hf'] at e2
  exact ⟨f, e2.symm, by rw [← e1]; exact hl, List.mem_of_getElem? hf⟩
theorem ord_no {s : List UInt8} (h : ∀ p ∈ ordL, p.1 ≠ vs s) : lettersOf s = none := by
  refine letters_none fun j hj e => ?_
  have := ordL_at hj
  have e1 : ordW.getD j [] = s := by rw [List.getD_eq_getElem?_getD, e]; rfl
  rw [e1] at this
  exact h _ (List.mem_of_getElem? this) rfl
/-- A word's letters, and whether there is such a word. -/
def LetR (s : List UInt8) (r : Value) : Prop := match lettersOf s with
  | some f => r = .tuple #[vs f, .bool true]
  | none => r = .tuple #[vs [], .bool false]
theorem fields_spec {w : World} {s : List UInt8} (hs : s.length ≤ 100000000) :
    Calls Tryz.prog 28 #[vs s] w (Ret fun r w' => LetR s r ∧ New w w') := by
  refine calls_of_Wc Tryz.func28 rfl Tryz.ntmps28 rfl ?_
  (repeat' (first | refine Wl.assignE (by conv => { lhs; whnf }) ?_ | refine Wl.nil ?_ | refine Qseq.normal ?_ | refine Wc.seq ?_ | refine Wc.region ?_))
  refine Wl.makeMap (k := 9) fun w0 m0 n0 s0 => ?_
  refine ins_step (w0 := w) 0 (by decide) m0 n0 (Nat.le_refl _) rfl rfl rfl fun w1 m1 n1 => ?_
  refine ins_step (w0 := w) 1 (by decide) m1 n1 (Nat.le_refl _) rfl rfl rfl fun w2 m2 n2 => ?_
  refine ins_step (w0 := w) 2 (by decide) m2 n2 (Nat.le_refl _) rfl rfl rfl fun w3 m3 n3 => ?_
  refine ins_step (w0 := w) 3 (by decide) m3 n3 (Nat.le_refl _) rfl rfl rfl fun w4 m4 n4 => ?_
  refine ins_step (w0 := w) 4 (by decide) m4 n4 (Nat.le_refl _) rfl rfl rfl fun w5 m5 n5 => ?_
  refine ins_step (w0 := w) 5 (by decide) m5 n5 (Nat.le_refl _) rfl rfl rfl fun w6 m6 n6 => ?_
  refine ins_step (w0 := w) 6 (by decide) m6 n6 (Nat.le_refl _) rfl rfl rfl fun w7 m7 n7 => ?_
  refine ins_step (w0 := w) 7 (by decide) m7 n7 (Nat.le_refl _) rfl rfl rfl fun w8 m8 n8 => ?_
  refine ins_step (w0 := w) 8 (by decide) m8 n8 (Nat.le_refl _) rfl rfl rfl fun w9 m9 n9 => ?_
  refine ins_step (w0 := w) 9 (by decide) m9 n9 (Nat.le_refl _) rfl rfl rfl fun w10 m10 n10 => ?_
  refine ins_step (w0 := w) 10 (by decide) m10 n10 (Nat.le_refl _) rfl rfl rfl fun w11 m11 n11 => ?_
  refine ins_step (w0 := w) 11 (by decide) m11 n11 (Nat.le_refl _) rfl rfl rfl fun w12 m12 n12 => ?_
  refine ins_step (w0 := w) 12 (by decide) m12 n12 (Nat.le_refl _) rfl rfl rfl fun w13 m13 n13 => ?_
  refine ins_step (w0 := w) 13 (by decide) m13 n13 (Nat.le_refl _) rfl rfl rfl fun w14 m14 n14 => ?_
  refine ins_step (w0 := w) 14 (by decide) m14 n14 (Nat.le_refl _) rfl rfl rfl fun w15 m15 n15 => ?_
  refine ins_step (w0 := w) 15 (by decide) m15 n15 (Nat.le_refl _) rfl rfl rfl fun w16 m16 n16 => ?_
  refine ins_step (w0 := w) 16 (by decide) m16 n16 (Nat.le_refl _) rfl rfl rfl fun w17 m17 n17 => ?_
  refine ins_step (w0 := w) 17 (by decide) m17 n17 (Nat.le_refl _) rfl rfl rfl fun w18 m18 n18 => ?_
  refine ins_step (w0 := w) 18 (by decide) m18 n18 (Nat.le_refl _) rfl rfl rfl fun w19 m19 n19 => ?_
  refine ins_step (w0 := w) 19 (by decide) m19 n19 (Nat.le_refl _) rfl rfl rfl fun w20 m20 n20 => ?_
  refine ins_step (w0 := w) 20 (by decide) m20 n20 (Nat.le_refl _) rfl rfl rfl fun w21 m21 n21 => ?_
  refine ins_step (w0 := w) 21 (by decide) m21 n21 (Nat.le_refl _) rfl rfl rfl fun w22 m22 n22 => ?_
  refine ins_step (w0 := w) 22 (by decide) m22 n22 (Nat.le_refl _) rfl rfl rfl fun w23 m23 n23 => ?_
  refine ins_step (w0 := w) 23 (by decide) m23 n23 (Nat.le_refl _) rfl rfl rfl fun w24 m24 n24 => ?_
  refine ins_step (w0 := w) 24 (by decide) m24 n24 (Nat.le_refl _) rfl rfl rfl fun w25 m25 n25 => ?_
  refine ins_step (w0 := w) 25 (by decide) m25 n25 (Nat.le_refl _) rfl rfl rfl fun w26 m26 n26 => ?_
  refine ins_step (w0 := w) 26 (by decide) m26 n26 (Nat.le_refl _) rfl rfl rfl fun w27 m27 n27 => ?_
  refine ins_step (w0 := w) 27 (by decide) m27 n27 (Nat.le_refl _) rfl rfl rfl fun w28 m28 n28 => ?_
  refine ins_step (w0 := w) 28 (by decide) m28 n28 (Nat.le_refl _) rfl rfl rfl fun w29 m29 n29 => ?_
  refine ins_step (w0 := w) 29 (by decide) m29 n29 (Nat.le_refl _) rfl rfl rfl fun w30 m30 n30 => ?_
  refine ins_step (w0 := w) 30 (by decide) m30 n30 (Nat.le_refl _) rfl rfl rfl fun w31 m31 n31 => ?_
  refine ins_step (w0 := w) 31 (by decide) m31 n31 (Nat.le_refl _) rfl rfl rfl fun w32 m32 n32 => ?_
  refine ins_step (w0 := w) 32 (by decide) m32 n32 (Nat.le_refl _) rfl rfl rfl fun w33 m33 n33 => ?_
  refine ins_step (w0 := w) 33 (by decide) m33 n33 (Nat.le_refl _) rfl rfl rfl fun w34 m34 n34 => ?_
  refine ins_step (w0 := w) 34 (by decide) m34 n34 (Nat.le_refl _) rfl rfl rfl fun w35 m35 n35 => ?_
  refine ins_step (w0 := w) 35 (by decide) m35 n35 (Nat.le_refl _) rfl rfl rfl fun w36 m36 n36 => ?_
  refine ins_step (w0 := w) 36 (by decide) m36 n36 (Nat.le_refl _) rfl rfl rfl fun w37 m37 n37 => ?_
  have mm : MapL Tryz.prog 9 w37 w.heap.size ordL := m37
  clear m0 n0 s0 m1 n1 m2 n2 m3 n3 m4 n4 m5 n5 m6 n6 m7 n7 m8 n8 m9 n9 m10 n10 m11 n11 m12 n12 m13 n13 m14 n14 m15 n15 m16 n16 m17 n17 m18 n18 m19 n19 m20 n20 m21 n21 m22 n22 m23 n23 m24 n24 m25 n25 m26 n26 m27 n27 m28 n28 m29 n29 m30 n30 m31 n31 m32 n32 m33 n33 m34 n34 m35 n35 m36 n36 m37
  obtain ⟨q, hq⟩ := keyS s (by simp only [maxLen]; omega)
  (repeat' (refine Wl.moveE (by conv => { lhs; whnf }) ?_))
  unfold LetR
  refine Wl.lookupOk kS mm hq rfl rfl (fun r hr => ?_) (fun hr => ?_)
  · obtain ⟨f, rfl, hl, _⟩ := ord_mem hr
    rw [hl]
    (repeat' (first | refine Wl.moveE (by conv => { lhs; whnf }) ?_ | refine Wl.assignE (by conv => { lhs; whnf }) ?_ | refine Wl.nil ?_ | refine Wl.extract rfl rfl ?_ | refine Qseq.normal ?_ | refine Wc.seq ?_ | refine Wc.region ?_ | refine Wc.ret ?_))
    exact Qfn.ret2 rfl rfl rfl ⟨_, rfl, rfl, n37⟩
  · rw [ord_no hr]
    (repeat' (first | refine Wl.moveE (by conv => { lhs; whnf }) ?_ | refine Wl.assignE (by conv => { lhs; whnf }) ?_ | refine Wl.nil ?_ | refine Wl.extract rfl rfl ?_ | refine Qseq.normal ?_ | refine Wc.seq ?_ | refine Wc.region ?_ | refine Wc.ret ?_))
    exact Qfn.ret2 rfl rfl rfl ⟨_, rfl, rfl, n37⟩
end Go.Proofs.YtpnpllghabbhlaaGreatDoor

namespace Go.Proofs.YtpnpllghabbhlaaGreatDoor
open Go Wk
open Go.RowKit (Below)
attribute [local irreducible] Go.Calls

instance concW : Conc Tryz.prog 51 := ⟨by kernel_rfl⟩
/-- What gives up raises. -/
abbrev wrongC (e : Int) : List PanicEntry := chainOf (.iface 51 (.agg #[vi e]))
theorem run_buildW {w : World} {e : Int} : (Instr.build 51 #[(0, vi e)]).run Tryz.prog w = .ok (.agg #[vi e]) w := by kernel_rfl
theorem must_spec {w : World} {b : Bool} {e : Int} : Calls Tryz.prog 15 #[.bool b, vi e] w (RetX (fun v w' => b = true ∧ v = .tuple #[] ∧ w = w') (fun c w' => b = false ∧ c = wrongC e ∧ w = w')) := by
  cases b
  · refine calls_of_Wc Tryz.func15 rfl Tryz.ntmps15 rfl ?_
    (repeat' (first | refine Wl.moveE (by conv => { lhs; whnf }) ?_ | refine Wl.nil ?_ | refine Wl.notB rfl ?_ | refine Qseq.normal ?_ | refine Wc.seq ?_ | refine Wc.region ?_ | refine Wc.condT rfl ?_))
    refine Wl.buildG rfl (run_buildW (e := e)) ?_
    refine Wl.mkIface rfl ?_
    refine Wl.panic rfl ?_
    (repeat' (refine Qfn.panic ?_))
    exact ⟨rfl, rfl, rfl⟩
  · refine calls_of_Wc Tryz.func15 rfl Tryz.ntmps15 rfl ?_
    (repeat' (first | refine Wl.moveE (by conv => { lhs; whnf }) ?_ | refine Wl.nil ?_ | refine Wl.notB rfl ?_ | refine Qseq.normal ?_ | refine Wc.seq ?_ | refine Wc.region ?_ | refine Wc.skip ?_ | refine Wc.condF rfl ?_))
    exact Qfn.end0 rfl ⟨rfl, rfl, rfl⟩
def manyF (f : List UInt8) : Bool := decide (f.getLast? = some 42)
def ownF (f : List UInt8) : List UInt8 := if manyF f = true then f.take (f.length - 2) else f
/-- Are there as many arguments as there are to be? -/
def cntM (f : List UInt8) (n : Nat) : Bool := if manyF f = true then decide ((ownF f).length ≤ n ∧ n ≤ (ownF f).length + 512) else decide (n = (ownF f).length)
def allM (f : List UInt8) (xs : List (List UInt8)) : Bool := (f.zip xs).all fun p => fitsM p.1 p.2
/-- May an order be? -/
def mayM (word : List UInt8) (xs : List (List UInt8)) : Bool := match lettersOf word with
  | none => false
  | some f => cntM f xs.length && allM (ownF f) xs
theorem ordF_facts : ∀ f ∈ ordF, f.length ≤ 4 ∧ (manyF f = true → 2 ≤ f.length ∧ f.getLast? = some 42) := by
  decide
theorem letters_mem {s f : List UInt8} (h : lettersOf s = some f) : f ∈ ordF := by
  unfold lettersOf at h
  obtain ⟨e, he, rfl⟩ := Option.map_eq_some_iff.1 h
  have := List.mem_of_find?_eq_some he
  exact (List.of_mem_zip this).2
theorem own_len {f : List UInt8} (h : f ∈ ordF) : (ownF f).length ≤ 4 := by
  have := (ordF_facts f h).1
  unfold ownF
  split
  · rw [List.length_take]; omega
  · exact this
theorem zip_take {α β : Type} : ∀ (k : Nat) (f : List α) (xs : List β), (f.take k).zip (xs.take k) = (f.zip xs).take k
  | 0, _, _ => rfl
  | _ + 1, [], _ => rfl
  | _ + 1, _ :: _, [] => rfl
  | k + 1, _ :: f, _ :: xs => congrArg (List.cons _) (zip_take k f xs)
theorem own_get {f : List UInt8} {i : Nat} (h : i < (ownF f).length) : (ownF f)[i]? = f[i]? := by
  unfold ownF at *
  split
  · rename_i hm
    rw [if_pos hm, List.length_take] at h
    rw [List.getElem?_take_of_lt (by omega)]
  · rfl
theorem many_last {f : List UInt8} {c : UInt8} (h : f[f.length - 1]? = some c) : manyF f = decide (c = 42) := by
  unfold manyF
  rw [List.getLast?_eq_getElem?, h]
  exact decide_eq_decide.2 ⟨fun e => Option.some.inj e, fun e => by rw [e]⟩
theorem allM_step {f : List UInt8} {xs : List (List UInt8)} {i : Nat} {c : UInt8} {x : List UInt8} (hc : f[i]? = some c) (hx : xs[i]? = some x) (h : allM (f.take i) (xs.take i) = true) (hf : fitsM c x = true) : allM (f.take (i + 1)) (xs.take (i + 1)) = true := by
  unfold allM at *
  have e : ∀ k, (f.take k).zip (xs.take k) = (f.zip xs).take k := fun k => zip_take k f xs
  rw [e] at *
  rw [List.take_add_one, show (f.zip xs)[i]? = some (c, x) from List.getElem?_zip_eq_some.2 ⟨hc, hx⟩, List.all_append, h]
  simp [hf]
theorem allM_fail {f : List UInt8} {xs : List (List UInt8)} {i : Nat} {c : UInt8} {x : List UInt8} (hc : f[i]? = some c) (hx : xs[i]? = some x) (hf : fitsM c x = false) : allM f xs = false := by
  unfold allM
  rw [List.all_eq_false]
  exact ⟨(c, x), List.mem_of_getElem? (show (f.zip xs)[i]? = some (c, x) from List.getElem?_zip_eq_some.2 ⟨hc, hx⟩), by simp [hf]⟩
theorem allM_end {f : List UInt8} {xs : List (List UInt8)} {i : Nat} (hi : f.length ≤ i) (h : allM (f.take i) (xs.take i) = true) : allM f xs = true := by
  unfold allM at *
  rw [zip_take, List.take_of_length_le (by rw [List.length_zip]; omega)] at h
  exact h
theorem May_spec {Pb : Nat → Prop} {w : World} {word : List UInt8} {v : Value} {xs : List (List UInt8)} (h : RdS (one vs) 1 Pb w v xs) (hE : ErrV w) (ht : Tb w) (hw : word.length ≤ 100000000) (hs : ∀ x ∈ xs, x.length ≤ 100000000) :
    Calls Tryz.prog 12 #[ordV word v] w (Ret fun r w' => r = .bool (mayM word xs) ∧ New w w') := by
  obtain ⟨a, cp, rfl, hc1, hc2⟩ := h.form
  simp only [maxLen] at hc2
  refine calls_of_Wc Tryz.func12 rfl Tryz.ntmps12 rfl ?_
  (repeat' (first | refine Wc.seq ?_ | refine Wc.region ?_))
  refine Wl.box rfl fun w1 b1 n1 s1 => ?_
  replace b1 : Bk w1 w.heap.size 24 (ordC word (.slice a xs.length cp)) := b1
  (repeat' (first | refine Wl.assignE (by conv => { lhs; whnf }) ?_ | refine Wl.nil ?_ | refine Qseq.normal ?_ | refine Wc.seq ?_ | refine Wc.region ?_ | refine Wl.fieldAddr rfl rfl ?_))
  refine Wl.load1 (u := vs word) rfl (b1.cell (o := 0) rfl) ?_
  refine Wl.call (FieldsR_spec (s := word)) rfl ?_
  rintro r w2 ⟨hr, n2⟩
  have n02 := New.trans n1 n2
  have b2 := b1.chg n2 fun e => e
  have h2 := h.keep (stable_one _) n02.keep
  cases hf : lettersOf word with
  | none =>
    rw [hf] at hr
    dsimp only at hr
    subst hr
    (repeat' (first | refine Wl.moveE (by conv => { lhs; whnf }) ?_ | refine Wl.assignE (by conv => { lhs; whnf }) ?_ | refine Wl.nil ?_ | refine Wl.extract rfl rfl ?_ | refine Wl.notB rfl ?_ | refine Qseq.normal ?_ | refine Wc.seq ?_ | refine Wc.region ?_ | refine Wc.ret ?_ | refine Qseq.ret ?_ | refine Wc.condT rfl ?_))
    exact Qfn.ret1 rfl rfl ⟨_, rfl, by unfold mayM; rw [hf]; rfl, n02⟩
  | some f =>
    rw [hf] at hr
    dsimp only at hr
    subst hr
    have hmay : mayM word xs = (cntM f xs.length && allM (ownF f) xs) := by unfold mayM; rw [hf]
    rw [hmay]
    have hfm := letters_mem hf
    obtain ⟨hf4, hf2⟩ := ordF_facts f hfm
    have hon := own_len hfm
    (repeat' (first | refine Wl.moveE (by conv => { lhs; whnf }) ?_ | refine Wl.assignE (by conv => { lhs; whnf }) ?_ | refine Wl.nil ?_ | refine Wl.extract rfl rfl ?_ | refine Qseq.normal ?_))
    refine Wc.seq ?_
    skip
    refine Wc.seq ?_
    (repeat' (first | refine Wl.moveE (by conv => { lhs; whnf }) ?_ | refine Wl.nil ?_ | refine Wl.notB rfl ?_ | refine Qseq.normal ?_ | refine Wc.region ?_ | refine Wc.skip ?_ | refine Wc.condF rfl ?_))
    refine Wc.seq ?_
    (repeat' (first | refine Wl.moveE (by conv => { lhs; whnf }) ?_ | refine Wl.assignE (by conv => { lhs; whnf }) ?_ | refine Wl.nil ?_ | refine Wl.lenStr rfl ?_ | refine Qseq.normal ?_ | refine Wc.region ?_))
    refine Wc.cutR (fun F W => agrees F [(1, .pointer (some ⟨w.heap.size, 0, none⟩)), (3, vs f), (5, vi f.length), (6, .bool (manyF f))] ∧ w2 = W) ?_ ?_
    · (repeat' (first | refine Wl.moveE (by conv => { lhs; whnf }) ?_ | refine Wl.assignE (by conv => { lhs; whnf }) ?_ | refine Wl.nil ?_ | refine Wl.guardY rfl rfl ?_ | refine Wl.guardN rfl rfl ?_ | refine Wl.pickFE rfl (by conv => { lhs; whnf }) ?_ | refine Wc.region ?_ | refine Wl.sub rfl rfl (by omega) (by omega) ?_ | refine Wl.gtr rfl rfl (fun _ => ?_) (fun _ => ?_)))
      · obtain ⟨c, hc⟩ := get_byte f (k := f.length - 1) (by omega)
        refine Wl.idxStr rfl rfl (by omega) (by rw [show ((f.length : Int) - 1).toNat = f.length - 1 by omega]; exact hc) ?_
        rw [many_last hc]
        (repeat' (first | refine Wl.assignE (by conv => { lhs; whnf }) ?_ | refine Wl.nil ?_ | refine Wl.guardY rfl rfl ?_ | refine Wl.pickTE rfl (by conv => { lhs; whnf }) ?_ | refine Wl.eql rfl rfl (fun _ => ?_) (fun _ => ?_)))
        · obtain rfl : c = 42 := UInt8.toNat.inj (by show c.toNat = 42; omega)
          exact Qm.normal ⟨⟨rfl, rfl, rfl, rfl, trivial⟩, rfl⟩
        · have hne : c ≠ 42 := by rintro rfl; exact absurd rfl (by assumption)
          rw [decide_eq_false hne]
          exact Qm.normal ⟨⟨rfl, rfl, rfl, rfl, trivial⟩, rfl⟩
      · obtain rfl : f = [] := List.length_eq_zero_iff.1 (by omega)
        exact Qm.normal ⟨⟨rfl, rfl, rfl, rfl, trivial⟩, rfl⟩
    rintro F _ ⟨ag, rfl⟩
    refine Wc.frame _ ag fun G => ?_
    clear ag
    simp only [upds]
    refine Wc.cutR (fun F W => agrees F [(1, .pointer (some ⟨w.heap.size, 0, none⟩)), (3, vs f), (5, vi (ownF f).length)] ∧ w2 = W ∧ cntM f xs.length = true ∧ (ownF f).length ≤ xs.length) ?_ ?_
    · cases hm : manyF f
      · have ho : ownF f = f := by unfold ownF; rw [if_neg (by rw [hm]; decide)]
        have hc : cntM f xs.length = decide (xs.length = f.length) := by unfold cntM; rw [if_neg (by rw [hm]; decide), ho]
        rw [hc, ho]
        (repeat' (first | refine Wl.moveE (by conv => { lhs; whnf }) ?_ | refine Wl.nil ?_ | refine Qseq.normal ?_ | refine Wc.seq ?_ | refine Wc.region ?_ | refine Wc.condF rfl ?_ | refine Wl.fieldAddr rfl rfl ?_))
        refine Wl.load1 (u := .slice a xs.length cp) rfl (b2.cell (o := 1) rfl) ?_
        (repeat' (first | refine Wl.moveE (by conv => { lhs; whnf }) ?_ | refine Wl.assignE (by conv => { lhs; whnf }) ?_ | refine Wl.nil ?_ | refine Wl.lenS rfl ?_ | refine Qseq.normal ?_ | refine Wc.seq ?_ | refine Wc.region ?_ | refine Wc.skip ?_ | refine Wc.ret ?_ | refine Wc.condT rfl ?_ | refine Wc.condF rfl ?_ | refine Qm.ret ?_ | refine Wl.neq rfl rfl (fun _ => ?_) (fun _ => ?_)))
        · exact Qfn.ret1 rfl rfl ⟨_, rfl, by rw [decide_eq_false (by omega)]; rfl, n02⟩
        · exact Qm.normal ⟨⟨rfl, rfl, rfl, trivial⟩, rfl, decide_eq_true (by omega), by omega⟩
      · have h2f := (hf2 hm).1
        have ho : (ownF f).length = f.length - 2 := by unfold ownF; rw [if_pos hm, List.length_take]; omega
        have hc : cntM f xs.length = decide (f.length - 2 ≤ xs.length ∧ xs.length ≤ f.length - 2 + 512) := by unfold cntM; rw [if_pos hm, ho]
        rw [hc]
        (repeat' (first | refine Wl.moveE (by conv => { lhs; whnf }) ?_ | refine Wl.assignE (by conv => { lhs; whnf }) ?_ | refine Wl.nil ?_ | refine Qseq.normal ?_ | refine Wc.seq ?_ | refine Wc.region ?_ | refine Wc.condT rfl ?_ | refine Wl.fieldAddr rfl rfl ?_ | refine Wl.sub rfl rfl (by omega) (by omega) ?_))
        refine Wl.load1 (u := .slice a xs.length cp) rfl (b2.cell (o := 1) rfl) ?_
        (repeat' (first | refine Wl.moveE (by conv => { lhs; whnf }) ?_ | refine Wl.assignE (by conv => { lhs; whnf }) ?_ | refine Wl.nil ?_ | refine Wl.guardY rfl rfl ?_ | refine Wl.guardN rfl rfl ?_ | refine Wl.pickTE rfl (by conv => { lhs; whnf }) ?_ | refine Wl.lenS rfl ?_ | refine Qseq.normal ?_ | refine Wc.seq ?_ | refine Wc.region ?_ | refine Wc.ret ?_ | refine Wc.condT rfl ?_ | refine Qm.ret ?_ | refine Wl.fieldAddr rfl rfl ?_ | refine Wl.lss rfl rfl (fun _ => ?_) (fun _ => ?_)))
        · exact Qfn.ret1 rfl rfl ⟨_, rfl, by rw [decide_eq_false (by omega)]; rfl, n02⟩
        · refine Wl.load1 (u := .slice a xs.length cp) rfl (b2.cell (o := 1) rfl) ?_
          (repeat' (first | refine Wl.moveE (by conv => { lhs; whnf }) ?_ | refine Wl.assignE (by conv => { lhs; whnf }) ?_ | refine Wl.nil ?_ | refine Wl.guardY rfl rfl ?_ | refine Wl.pickFE rfl (by conv => { lhs; whnf }) ?_ | refine Wl.lenS rfl ?_ | refine Qseq.normal ?_ | refine Wc.seq ?_ | refine Wc.region ?_ | refine Wc.skip ?_ | refine Wc.ret ?_ | refine Wc.condT rfl ?_ | refine Wc.condF rfl ?_ | refine Qm.ret ?_ | refine Wl.add rfl rfl (by omega) (by omega) ?_ | refine Wl.gtr rfl rfl (fun _ => ?_) (fun _ => ?_)))
          · exact Qfn.ret1 rfl rfl ⟨_, rfl, by rw [decide_eq_false (by omega)]; rfl, n02⟩
          · refine Qm.normal ⟨⟨rfl, rfl, ?_, trivial⟩, rfl, decide_eq_true (by omega), by omega⟩
            show vi ((f.length : Int) - 2) = _
            rw [ho]; congr 1; omega
    rintro F _ ⟨ag, rfl, hcnt, hlen⟩
    refine Wc.frame _ ag fun G => ?_
    clear ag
    simp only [upds]
    rw [hcnt, Bool.true_and]
    (repeat' (first | refine Wl.assignE (by conv => { lhs; whnf }) ?_ | refine Wl.nil ?_ | refine Qseq.normal ?_ | refine Wc.seq ?_ | refine Wc.region ?_ | refine Wc.block ?_))
    refine Wc.loop (σ := Nat) (fun i => [(1, .pointer (some ⟨w.heap.size, 0, none⟩)), (3, vs f), (5, vi (ownF f).length), (7, vi i)]) (fun i W => i ≤ (ownF f).length ∧ allM ((ownF f).take i) (xs.take i) = true ∧ New w2 W) (fun i => (ownF f).length - i) 0 ⟨rfl, rfl, rfl, rfl, trivial⟩ ⟨Nat.zero_le _, rfl, Chg.refl _ _⟩ ?_
    rintro i G W ⟨hi, hall, nW⟩
    simp only [upds]
    have bW := b2.chg nW fun e => e
    have hW := h2.keep (stable_one _) nW.keep
    (repeat' (first | refine Wl.moveE (by conv => { lhs; whnf }) ?_ | refine Wl.assignE (by conv => { lhs; whnf }) ?_ | refine Wl.nil ?_ | refine Qseq.normal ?_ | refine Wc.seq ?_ | refine Wc.region ?_ | refine Wc.block ?_ | refine Wc.skip ?_ | refine Wc.exit ?_ | refine Wc.ret ?_ | refine Qseq.exit ?_ | refine Qblk.hit ?_ | refine Qloop.exit ?_ | refine Wc.condT rfl ?_ | refine Wc.condF rfl ?_ | refine Wl.lss rfl rfl (fun _ => ?_) (fun _ => ?_)))
    · obtain ⟨c, hc⟩ := get_byte (ownF f) (k := i) (by omega)
      obtain ⟨x, hx⟩ : ∃ x, xs[i]? = some x := ⟨_, List.getElem?_eq_getElem (by omega)⟩
      have hxl := hs x (List.mem_of_getElem? hx)
      have hcf : f[i]? = some c := by rw [← own_get (by omega)]; exact hc
      refine Wc.regionT rfl (by kernel_rfl) (fun w' => New W w') (Chg.drew _ _) ?_
      intro w3 n3
      (repeat' (refine Wt.quiet rfl (Wq.moveE (by conv => { lhs; whnf }) (Wq.nil ?_))))
      refine Wt.quiet rfl (Wq.idxStr rfl rfl (by omega) (by rw [Int.toNat_natCast]; exact hcf) (Wq.nil ?_))
      (repeat' (refine Wt.quiet rfl (Wq.fieldAddr rfl rfl (Wq.nil ?_))))
      refine Wt.quiet rfl (Wq.load1 (u := .slice a xs.length cp) rfl (fun w' hw => (bW.chg hw fun e => e).cell (o := 1) rfl) (Wq.nil ?_))
      (repeat' (refine Wt.quiet rfl (Wq.moveE (by conv => { lhs; whnf }) (Wq.nil ?_))))
      refine Wt.quiet rfl (Wq.idxAddr hW (fun w' hw => Chg.keep hw fun _ _ _ e => e) rfl rfl (by omega) (by rw [Int.toNat_natCast]; exact hx) fun bb off cs hcl hR hat => Wq.nil ?_)
      obtain rfl : cs = [vs x] := hR
      refine Wt.quiet rfl (Wq.load1 (u := vs x) rfl (fun w' hw => (hat w' hw).get 0 rfl) (Wq.nil ?_))
      clear hat
      refine Wt.chain rfl (Wl.call (fitsR_spec (c := c) (s := x) (((hE.new n02).new nW).new n3) (((ht.new n02).new nW).new n3) hxl) rfl ?_)
      rintro _ w4 ⟨rfl, n4⟩
      have n34 := New.trans n3 n4
      refine Wl.nil ⟨rfl, n34, ?_⟩
      cases hfit : fitsM c x
      · (repeat' (first | refine Wt.nil ?_ | refine Wt.quiet rfl (Wq.notB rfl (Wq.nil ?_))))
        (repeat' (first | refine Wl.assignE (by conv => { lhs; whnf }) ?_ | refine Wl.nil ?_ | refine Qseq.normal ?_ | refine Wc.seq ?_ | refine Wc.region ?_ | refine Wc.ret ?_ | refine Qseq.ret ?_ | refine Qblk.ret ?_ | refine Qloop.ret ?_ | refine Wc.condT rfl ?_))
        exact Qfn.ret1 rfl rfl ⟨_, rfl, by rw [allM_fail hc hx hfit]; rfl, New.trans n02 (New.trans nW n34)⟩
      · (repeat' (first | refine Wt.nil ?_ | refine Wt.quiet rfl (Wq.notB rfl (Wq.nil ?_))))
        (repeat' (first | refine Wl.moveE (by conv => { lhs; whnf }) ?_ | refine Wl.assignE (by conv => { lhs; whnf }) ?_ | refine Wl.nil ?_ | refine Qseq.normal ?_ | refine Wc.region ?_ | refine Wc.skip ?_ | refine Qblk.normal ?_ | refine Wc.condF rfl ?_ | refine Wl.add rfl rfl (by omega) (by omega) ?_))
        exact Qloop.normal (i + 1) ⟨rfl, rfl, rfl, rfl, trivial⟩ ⟨by omega, allM_step hc hx hall hfit, New.trans nW n34⟩ (by omega)
    · exact Qfn.ret1 rfl rfl ⟨_, rfl, by rw [allM_end (by omega) hall]; rfl, New.trans n02 nW⟩
end Go.Proofs.YtpnpllghabbhlaaGreatDoor

namespace Go.Proofs.YtpnpllghabbhlaaGreatDoor
open Go Wk
open Go.RowKit (Below)
attribute [local irreducible] Go.Calls

theorem CutSuffix_spec {w : World} {a b : List UInt8} (ha : a.length ≤ 100000000) : Calls Tryz.prog 29 #[vs a, vs b] w (Ret fun r w' => r = .tuple #[vs (Lib.trimSuffix a b), .bool (Lib.hasSuffix a b)] ∧ w = w') := by
  refine (Tryz.strings_CutSuffix ⟨a.toArray⟩ ⟨b.toArray⟩ w (by simp only [ByteArray.size, List.size_toArray]; omega)).mono ?_
  rintro e w' ⟨rfl, rfl⟩
  exact ⟨_, rfl, by simp, rfl⟩
theorem ordF_cut : ∀ f ∈ ordF, Lib.hasSuffix f [42] = manyF f ∧ Lib.trimSuffix f [42] = if manyF f = true then f.take (f.length - 1) else f := by decide +kernel
abbrev ordP (word : List UInt8) (v : Value) : Value := .agg #[vs word, v]
theorem check_spec {Pb : Nat → Prop} {w : World} {word : List UInt8} {v : Value} {xs : List (List UInt8)} {e : Int} (h : RdS (one vs) 1 Pb w v xs) (hE : ErrV w) (ht : Tb w) (hw : word.length ≤ 100000000) (hs : ∀ x ∈ xs, x.length ≤ 100000000) :
    Calls Tryz.prog 17 #[ordP word v, vi e] w (RetX (fun r w' => mayM word xs = true ∧ r = .tuple #[] ∧ New w w') (fun c w' => mayM word xs = false ∧ c = wrongC e ∧ New w w')) := by
  obtain ⟨a, cp, rfl, hc1, hc2⟩ := h.form
  simp only [maxLen] at hc2
  refine calls_of_Wc Tryz.func17 rfl Tryz.ntmps17 rfl ?_
  (repeat' (first | refine Wc.seq ?_ | refine Wc.region ?_))
  refine Wl.box rfl fun w1 b1 n1 s1 => ?_
  replace b1 : Bk w1 w.heap.size 28 (ordC word (.slice a xs.length cp)) := b1
  (repeat' (first | refine Wl.nil ?_ | refine Qseq.normal ?_ | refine Wc.seq ?_ | refine Wc.region ?_ | refine Wl.fieldAddr rfl rfl ?_))
  refine Wl.load1 (u := vs word) rfl (b1.cell (o := 0) rfl) ?_
  refine Wl.call (fields_spec (s := word) hw) rfl ?_
  rintro r w2 ⟨hr, n2⟩
  have n02 := New.trans n1 n2
  have b2 := b1.chg n2 fun e => e
  have h2 := h.keep (stable_one _) n02.keep
  unfold LetR at hr
  cases hf : lettersOf word with
  | none =>
    rw [hf] at hr
    dsimp only at hr
    subst hr
    (repeat' (first | refine Wl.moveE (by conv => { lhs; whnf }) ?_ | refine Wl.assignE (by conv => { lhs; whnf }) ?_ | refine Wl.nil ?_ | refine Wl.extract rfl rfl ?_ | refine Qseq.normal ?_ | refine Wc.seq ?_ | refine Wc.region ?_))
    refine Wl.callX (must_spec (b := false) (e := e)) rfl ?_ ?_
    · rintro c w3 ⟨_, rfl, rfl⟩
      (repeat' (first | refine Qseq.panic ?_ | refine Qfn.panic ?_))
      exact ⟨by unfold mayM; rw [hf], rfl, n02⟩
    · rintro c w3 ⟨q, _⟩
      cases q
  | some f =>
    rw [hf] at hr
    dsimp only at hr
    subst hr
    have hmay : mayM word xs = (cntM f xs.length && allM (ownF f) xs) := by unfold mayM; rw [hf]
    rw [hmay]
    have hfm := letters_mem hf
    obtain ⟨hf4, hf2⟩ := ordF_facts f hfm
    obtain ⟨hcs, hct⟩ := ordF_cut f hfm
    have hon := own_len hfm
    (repeat' (first | refine Wl.moveE (by conv => { lhs; whnf }) ?_ | refine Wl.assignE (by conv => { lhs; whnf }) ?_ | refine Wl.nil ?_ | refine Wl.extract rfl rfl ?_ | refine Qseq.normal ?_ | refine Wc.seq ?_ | refine Wc.region ?_))
    refine Wl.callX (must_spec (b := true) (e := e)) rfl ?_ ?_
    · rintro c w3 ⟨q, _⟩
      cases q
    rintro _ _ ⟨_, rfl, rfl⟩
    (repeat' (first | refine Wl.moveE (by conv => { lhs; whnf }) ?_ | refine Wl.nil ?_ | refine Qseq.normal ?_ | refine Wc.seq ?_ | refine Wc.region ?_))
    refine Wl.call (CutSuffix_spec (a := f) (b := [42]) (by omega)) rfl ?_
    rintro _ _ ⟨rfl, rfl⟩
    rw [hcs, hct]
    -- MARK
    (repeat' (first | refine Wl.moveE (by conv => { lhs; whnf }) ?_ | refine Wl.assignE (by conv => { lhs; whnf }) ?_ | refine Wl.nil ?_ | refine Wl.extract rfl rfl ?_ | refine Qseq.normal ?_))
    refine Wc.cutR (fun F W => agrees F [(1, vi e), (2, .pointer (some ⟨w.heap.size, 0, none⟩)), (6, vs (ownF f))] ∧ w2 = W ∧ cntM f xs.length = true ∧ (ownF f).length ≤ xs.length) ?_ ?_
    · cases hm : manyF f
      · have ho : ownF f = f := by unfold ownF; rw [if_neg (by rw [hm]; decide)]
        have hc : cntM f xs.length = decide (xs.length = f.length) := by unfold cntM; rw [if_neg (by rw [hm]; decide), ho]
        rw [if_neg (by decide)]
        (repeat' (first | refine Wl.moveE (by conv => { lhs; whnf }) ?_ | refine Wl.nil ?_ | refine Qseq.normal ?_ | refine Wc.seq ?_ | refine Wc.region ?_ | refine Wc.condF rfl ?_ | refine Wl.fieldAddr rfl rfl ?_))
        refine Wl.load1 (u := .slice a xs.length cp) rfl (b2.cell (o := 1) rfl) ?_
        (repeat' (first | refine Wl.moveE (by conv => { lhs; whnf }) ?_ | refine Wl.lenS rfl ?_ | refine Wl.lenStr rfl ?_ | refine Wl.eql rfl rfl (fun _ => ?_) (fun _ => ?_)))
        · refine Wl.callX (must_spec (b := true) (e := e)) rfl ?_ ?_
          · rintro c w3 ⟨q, _⟩
            cases q
          rintro _ _ ⟨_, rfl, rfl⟩
          (repeat' (refine Wl.nil ?_))
          exact Qm.normal ⟨⟨rfl, rfl, by rw [ho]; rfl, trivial⟩, rfl, by rw [hc]; exact decide_eq_true (by omega), by rw [ho]; omega⟩
        · refine Wl.callX (must_spec (b := false) (e := e)) rfl ?_ ?_
          · rintro c w3 ⟨_, rfl, rfl⟩
            (repeat' (first | refine Qm.panic ?_ | refine Qfn.panic ?_))
            exact ⟨by rw [hc, decide_eq_false (by omega)]; rfl, rfl, n02⟩
          · rintro c w3 ⟨q, _⟩
            cases q
      · have h2f := (hf2 hm).1
        have hoe : ownF f = f.take (f.length - 2) := by unfold ownF; rw [if_pos hm]
        have ho : (ownF f).length = f.length - 2 := by rw [hoe, List.length_take]; omega
        have hc : cntM f xs.length = decide (f.length - 2 ≤ xs.length ∧ xs.length ≤ f.length - 2 + 512) := by unfold cntM; rw [if_pos hm, ho]
        have hl1 : (f.take (f.length - 1)).length = f.length - 1 := by rw [List.length_take]; omega
        rw [if_pos rfl]
        (repeat' (first | refine Wl.moveE (by conv => { lhs; whnf }) ?_ | refine Wl.nil ?_ | refine Wl.lenStr rfl ?_ | refine Qseq.normal ?_ | refine Wc.seq ?_ | refine Wc.region ?_ | refine Wc.condT rfl ?_ | refine Wl.sub rfl rfl (by omega) (by omega) ?_))
        refine Wl.strTo rfl rfl (by omega) (by omega) ?_
        rw [show ((((f.take (f.length - 1)).length : Nat) : Int) - 1).toNat = f.length - 2 by omega, List.take_take, Nat.min_eq_left (by omega), ← hoe]
        (repeat' (first | refine Wl.assignE (by conv => { lhs; whnf }) ?_ | refine Wl.nil ?_ | refine Qseq.normal ?_ | refine Wc.region ?_ | refine Wl.fieldAddr rfl rfl ?_))
        refine Wl.load1 (u := .slice a xs.length cp) rfl (b2.cell (o := 1) rfl) ?_
        (repeat' (first | refine Wl.moveE (by conv => { lhs; whnf }) ?_ | refine Wl.guardY rfl rfl ?_ | refine Wl.guardN rfl rfl ?_ | refine Wl.pickFE rfl (by conv => { lhs; whnf }) ?_ | refine Wl.lenS rfl ?_ | refine Wl.lenStr rfl ?_ | refine Wl.fieldAddr rfl rfl ?_ | refine Wl.geq rfl rfl (fun _ => ?_) (fun _ => ?_)))
        · refine Wl.load1 (u := .slice a xs.length cp) rfl (b2.cell (o := 1) rfl) ?_
          (repeat' (first | refine Wl.moveE (by conv => { lhs; whnf }) ?_ | refine Wl.guardY rfl rfl ?_ | refine Wl.pickTE rfl (by conv => { lhs; whnf }) ?_ | refine Wl.lenS rfl ?_ | refine Wl.lenStr rfl ?_ | refine Wl.add rfl rfl (by omega) (by omega) ?_ | refine Wl.leq rfl rfl (fun _ => ?_) (fun _ => ?_)))
          · refine Wl.callX (must_spec (b := true) (e := e)) rfl ?_ ?_
            · rintro c w3 ⟨q, _⟩
              cases q
            rintro _ _ ⟨_, rfl, rfl⟩
            (repeat' (refine Wl.nil ?_))
            exact Qm.normal ⟨⟨rfl, rfl, rfl, trivial⟩, rfl, by rw [hc]; exact decide_eq_true (by omega), by omega⟩
          · refine Wl.callX (must_spec (b := false) (e := e)) rfl ?_ ?_
            · rintro c w3 ⟨_, rfl, rfl⟩
              (repeat' (first | refine Qm.panic ?_ | refine Qfn.panic ?_))
              exact ⟨by rw [hc, decide_eq_false (by omega)]; rfl, rfl, n02⟩
            · rintro c w3 ⟨q, _⟩
              cases q
        · refine Wl.callX (must_spec (b := false) (e := e)) rfl ?_ ?_
          · rintro c w3 ⟨_, rfl, rfl⟩
            (repeat' (first | refine Qm.panic ?_ | refine Qfn.panic ?_))
            exact ⟨by rw [hc, decide_eq_false (by omega)]; rfl, rfl, n02⟩
          · rintro c w3 ⟨q, _⟩
            cases q
    rintro F _ ⟨ag, rfl, hcnt, hlen⟩
    refine Wc.frame _ ag fun G => ?_
    clear ag
    simp only [upds]
    rw [hcnt, Bool.true_and]
    (repeat' (first | refine Wl.moveE (by conv => { lhs; whnf }) ?_ | refine Wl.nil ?_ | refine Wl.lenStr rfl ?_ | refine Qseq.normal ?_ | refine Wc.seq ?_ | refine Wc.region ?_ | refine Wc.block ?_))
    refine Wc.loop (σ := Nat) (fun i => [(1, vi e), (2, .pointer (some ⟨w.heap.size, 0, none⟩)), (6, vs (ownF f)), (55, vi (ownF f).length), (56, vi i)]) (fun i W => i ≤ (ownF f).length ∧ allM ((ownF f).take i) (xs.take i) = true ∧ New w2 W) (fun i => (ownF f).length - i) 0 ⟨rfl, rfl, rfl, rfl, rfl, trivial⟩ ⟨Nat.zero_le _, rfl, Chg.refl _ _⟩ ?_
    rintro i G W ⟨hi, hall, nW⟩
    simp only [upds]
    have bW := b2.chg nW fun e => e
    have hW := h2.keep (stable_one _) nW.keep
    (repeat' (first | refine Wl.moveE (by conv => { lhs; whnf }) ?_ | refine Wl.assignE (by conv => { lhs; whnf }) ?_ | refine Wl.nil ?_ | refine Qseq.normal ?_ | refine Wc.seq ?_ | refine Wc.region ?_ | refine Wc.block ?_ | refine Wc.skip ?_ | refine Wc.exit ?_ | refine Qseq.exit ?_ | refine Qblk.hit ?_ | refine Qloop.exit ?_ | refine Wc.condT rfl ?_ | refine Wc.condF rfl ?_ | refine Wl.lss rfl rfl (fun _ => ?_) (fun _ => ?_)))
    · obtain ⟨c, hc⟩ := get_byte (ownF f) (k := i) (by omega)
      obtain ⟨x, hx⟩ : ∃ x, xs[i]? = some x := ⟨_, List.getElem?_eq_getElem (by omega)⟩
      have hxl := hs x (List.mem_of_getElem? hx)
      refine Wc.regionT rfl (by kernel_rfl) (fun w' => New W w') (Chg.drew _ _) ?_
      intro w3 n3
      (repeat' (refine Wt.quiet rfl (Wq.moveE (by conv => { lhs; whnf }) (Wq.nil ?_))))
      refine Wt.quiet rfl (Wq.idxStr rfl rfl (by omega) (by rw [Int.toNat_natCast]; exact hc) (Wq.nil ?_))
      (repeat' (refine Wt.quiet rfl (Wq.fieldAddr rfl rfl (Wq.nil ?_))))
      refine Wt.quiet rfl (Wq.load1 (u := .slice a xs.length cp) rfl (fun w' hw => (bW.chg hw fun e => e).cell (o := 1) rfl) (Wq.nil ?_))
      (repeat' (refine Wt.quiet rfl (Wq.moveE (by conv => { lhs; whnf }) (Wq.nil ?_))))
      refine Wt.quiet rfl (Wq.idxAddr hW (fun w' hw => Chg.keep hw fun _ _ _ e => e) rfl rfl (by omega) (by rw [Int.toNat_natCast]; exact hx) fun bb off cs hcl hR hat => Wq.nil ?_)
      obtain rfl : cs = [vs x] := hR
      refine Wt.quiet rfl (Wq.load1 (u := vs x) rfl (fun w' hw => (hat w' hw).get 0 rfl) (Wq.nil ?_))
      clear hat
      refine Wt.chain rfl (Wl.call (fitsP_spec (c := c) (s := x) (((hE.new n02).new nW).new n3) (((ht.new n02).new nW).new n3) hxl) rfl ?_)
      rintro _ w4 ⟨rfl, n4⟩
      have n34 := New.trans n3 n4
      refine Wl.nil ⟨rfl, n34, ?_⟩
      cases hfit : fitsM c x
      · (repeat' (refine Wt.quiet rfl (Wq.moveE (by conv => { lhs; whnf }) (Wq.nil ?_))))
        refine Wt.last rfl (Wl.callX (must_spec (b := false) (e := e)) rfl ?_ ?_)
        · rintro c w5 ⟨_, rfl, rfl⟩
          (repeat' (first | refine Qseq.panic ?_ | refine Qblk.panic ?_ | refine Qloop.panic ?_ | refine Qfn.panic ?_))
          exact ⟨by rw [allM_fail hc hx hfit], rfl, New.trans n02 (New.trans nW n34)⟩
        · rintro c w5 ⟨q, _⟩
          cases q
      · (repeat' (refine Wt.quiet rfl (Wq.moveE (by conv => { lhs; whnf }) (Wq.nil ?_))))
        refine Wt.last rfl (Wl.callX (must_spec (b := true) (e := e)) rfl ?_ ?_)
        · rintro c w5 ⟨q, _⟩
          cases q
        rintro _ _ ⟨_, rfl, rfl⟩
        (repeat' (first | refine Wl.moveE (by conv => { lhs; whnf }) ?_ | refine Wl.nil ?_ | refine Qseq.normal ?_ | refine Wc.region ?_ | refine Qblk.normal ?_ | refine Wl.add rfl rfl (by omega) (by omega) ?_))
        exact Qloop.normal (i + 1) ⟨rfl, rfl, rfl, rfl, rfl, trivial⟩ ⟨by omega, allM_step hc hx hall hfit, New.trans nW n34⟩ (by omega)
    · exact Qfn.end0 rfl ⟨allM_end (by omega) hall, rfl, New.trans n02 nW⟩
end Go.Proofs.YtpnpllghabbhlaaGreatDoor

namespace Go.Proofs.YtpnpllghabbhlaaGreatDoor
open Go Wk
open Go.RowKit (Below)
attribute [local irreducible] Go.Calls

theorem wp_of_Wc {P : Program} {n : Nat} {Q0 : Po} {Q : Exit → Act → World → Prop} {F : Fr} {w : World} {c : Code} {a : Act} (ha : a = act n [] F) (h : Wc P n [] Q0 c F w) (k : ∀ e F' w', Q0 e F' w' → Q e (act n [] F') w') : c.wp P Q a w := by
  subst ha
  unfold Wc at h
  refine wp_mono h ?_
  rintro e a' w' ⟨F', rfl, hq⟩
  exact k e F' w' hq
instance ifcAny : Ifc Tryz.prog 20 := ⟨_, Tryz.underlying20⟩
abbrev pE (b : Nat) : Value := .pointer (some ⟨b, 0, none⟩)
abbrev tErr : TypeId := 25
theorem idle_spec (b : Nat) (w : World) :
    CallsD Tryz.prog 24 #[pE b] .returning w fun e u' w' => e = .returned (.tuple #[]) ∧ u' = .returning ∧ w' = w := by
  refine callsD_of_wpS Tryz.func24 rfl fun c₀ cs hu => ?_
  apply wpS_seq
  apply wpS_region
  simp [wpOpsS, go_sem, recoverD, hu, Tryz.ntmps24, Exit.thenS]
  refine wpS_of_wp ?_
  refine wp_of_Wc (n := 12) (F := ofArgs [pE b, undef, undef, undef, .nilIface, undef, undef, undef, undef, undef, undef, undef]) (Q0 := fun e F w' => e = .normal ∧ w' = w) rfl ?_ ?_
  · (repeat' (first | refine Wc.seq ?_ | refine Wc.region ?_ | refine Wc.block ?_))
    refine Wl.ieqNil rfl ?_
    (repeat' (first | refine Wl.assignE (by conv => { lhs; whnf }) ?_ | refine Wl.nil ?_ | refine Qseq.normal ?_ | refine Wc.region ?_ | refine Qblk.normal ?_ | refine Wc.condT rfl ?_))
    exact ⟨rfl, rfl⟩
  · rintro e F' w' ⟨rfl, rfl⟩
    cases c₀
    simp_all [bodyPostS, results, Tryz.results24]
    rfl
theorem run_assertT {P : Program} {w : World} {t x : TypeId} {v : Value} {fs : Array Field} (h : P.underlying t = some (.struct fs)) : (Instr.typeAssert (.iface t v) x t true).run P w = .ok (.tuple #[v, .bool true]) w := by
  simp [Instr.typeAssert, run_underlying h]
theorem Wk.Wl.assertT {P : Program} {n : Nat} {ds : List Deferred} {Q : Po} {F : Fr} {w : World} {ops rest : List Oper} {d : Nat} {ty t xt : TypeId} {pos : String} {aft : Array Edge} {x : Operand} {v : Value} {fs : Array Field} (h : P.underlying t = some (.struct fs)) (hx : ev n F x = .iface t v)
    (c : Wl P n ds Q ops rest (upd F d (.tuple #[v, .bool true])) w) : Wl P n ds Q ops (⟨some d, .typeAssert x xt t true, ty, pos, aft, none⟩ :: rest) F w :=
  Wl.val (by simp only [execOp, hx, Sem.run_bind, run_assertT h, Result.andThen_ok, Sem.run_pure]) c
theorem caught_panic (b : Nat) (x : Value) (e : Int) (older : List PanicEntry) (w : World) (h : Bk w b tErr [x]) :
    CallsD Tryz.prog 24 #[pE b] (.panicking ({ v := .iface 51 (.agg #[vi e]), recovered := false } :: older)) w fun q u' w' =>
      q = .returned (.tuple #[]) ∧ u' = .panicking ({ v := .iface 51 (.agg #[vi e]), recovered := true } :: older) ∧ Bk w' b tErr [vi e] ∧ Chg (fun k => k = b) w w' := by
  refine callsD_of_wpS Tryz.func24 rfl fun c₀ cs hu => ?_
  apply wpS_seq
  apply wpS_region
  simp [wpOpsS, go_sem, recoverD, hu, Tryz.ntmps24, Exit.thenS]
  refine wpS_of_wp ?_
  refine wp_of_Wc (n := 12) (F := ofArgs [pE b, undef, undef, undef, .iface 51 (.agg #[vi e]), undef, undef, undef, undef, undef, undef, undef]) (Q0 := fun q F w' => q = .normal ∧ Bk w' b tErr [vi e] ∧ Chg (fun k => k = b) w w') rfl ?_ ?_
  · (repeat' (first | refine Wc.seq ?_ | refine Wc.region ?_ | refine Wc.block ?_))
    refine Wl.ieqHeld rfl ?_
    (repeat' (first | refine Wl.nil ?_ | refine Qseq.normal ?_ | refine Wc.seq ?_ | refine Wc.region ?_ | refine Wc.condF rfl ?_))
    refine Wk.Wl.assertT Tryz.underlying51 rfl ?_
    (repeat' (first | refine Wl.nil ?_ | refine Wl.extract rfl rfl ?_ | refine Qseq.normal ?_ | refine Wc.seq ?_ | refine Wc.region ?_ | refine Wc.condT rfl ?_))
    refine Wl.alloc fun w1 b1 n1 s1 => ?_
    refine Wl.storeB (u := .agg #[vi e]) (new := [vi e]) b1 rfl rfl rfl rfl (show (1 : Nat) ≤ 1 from Nat.le_refl 1) (by simp [Value.oneCell']) fun w2 b2 c2 s2 => ?_
    replace b2 : Bk w2 w.heap.size 51 [vi e] := b2
    (repeat' (first | refine Wl.nil ?_ | refine Qseq.normal ?_ | refine Wc.region ?_ | refine Wl.fieldAddr rfl rfl ?_))
    refine Wl.load1 rfl (b2.cell (o := 0) rfl) ?_
    have hlt := h.lt
    have h2 := (h.chg n1 fun e => e).chg c2 fun e => by omega
    refine Wl.store1 (u := vi e) h2 rfl (show (0 : Nat) < 1 by omega) rfl rfl fun w3 b3 c3 => ?_
    replace b3 : Bk w3 b tErr [vi e] := b3
    (repeat' (first | refine Wl.nil ?_ | refine Qblk.normal ?_))
    exact ⟨rfl, b3, Chg.trans ((Chg.trans n1.any c2 fun _ _ e => e).toNew fun k hk e => by omega).any c3 fun _ _ e => e⟩
  · rintro q F' w' ⟨rfl, h1, h2⟩
    exact ⟨rfl, _, rfl, .tuple #[], results_none Tryz.results24 _ _ _, rfl, rfl, h1, h2⟩
/-- A call of a function's value that may panic. -/
theorem Wk.Wl.callVX {P : Program} {n : Nat} {ds : List Deferred} {Q : Po} {F : Fr} {w : World} {ops rest : List Oper} {ty : TypeId} {pos : String} {aft : Array Edge} {dst : Option Nat} {g : Operand} {args : List Operand} {ts : Array TypeId} {f : FuncId} {first cap : Array Value} {vs : List Value} {φ : Value → World → Prop} {X : List PanicEntry → World → Prop}
    [hc : Callable P f] (hg : ev n F g = .func (.func f) first cap) (h : Calls P f vs.toArray w (RetX φ X)) (ha : first.toList ++ (args.map (ev n F) ++ cap.toList) = vs) (kx : ∀ c w', X c w' → Q (.panic c) F w') (k : ∀ v w', φ v w' → Wl P n ds Q ops rest (updO F dst v) w') :
    Wl P n ds Q ops (⟨dst, .call { callee := .value g, args := args.toArray, argTypes := ts }, ty, pos, aft, none⟩ :: rest) F w := by
  unfold Wl
  refine wpList_plain rfl fun K hK => ?_
  unfold Oper.wp
  have e : (execOp (ev n F) ⟨dst, .call { callee := .value g, args := args.toArray, argTypes := ts }, ty, pos, aft, none⟩).run P w = .ok (.enter f vs.toArray) w := by
    subst ha
    simp only [execOp, resolve, hg, Deferred.ofValue, Sem.run_bind, Sem.run_pure, Result.andThen_ok, invoke, run_callFunc hc]
    congr 3
    apply Array.ext'
    simp
  rw [act_eval', e, Oper.upon_enter]
  refine h.mono ?_
  intro e w'' hv
  cases e with
  | returned v =>
    dsimp only
    refine hK _ _ ?_
    rw [act_putO]
    have := k v w'' hv
    unfold Wl at this
    exact this
  | panicked c => exact ⟨F, rfl, kx c w'' hv⟩
  | outgrown => exact hv.elim
theorem caught_spec {w : World} {g : Nat} {cap : List Value} {M : Nat → Prop} {φ : World → Prop} {X : Int → World → Prop} [Callable Tryz.prog g] (hM : ¬ M w.heap.size)
    (h : ∀ w1, New w w1 → w1.heap.size = w.heap.size + 1 → Calls Tryz.prog g cap.toArray w1 (RetX (fun _ w' => φ w' ∧ Chg M w1 w') (fun c w' => ∃ e, c = wrongC e ∧ X e w' ∧ Chg M w1 w'))) :
    Calls Tryz.prog 13 #[.func (.func g) #[] cap.toArray] w (Ret fun r w' => (r = vi 0 ∧ ∃ w2, φ w2 ∧ Chg M w w2 ∧ Chg (fun k => k = w.heap.size) w2 w' ∧ w.heap.size < w2.heap.size) ∨ (∃ e, r = vi e ∧ ∃ w2, X e w2 ∧ Chg M w w2 ∧ Chg (fun k => k = w.heap.size) w2 w' ∧ w.heap.size < w2.heap.size)) := by
  refine calls_of_defer (n := 6) (l := [.func (.func g) #[] cap.toArray]) (t := 3) (g := 24) (cap := [.tmp 2]) Tryz.func13 rfl rfl rfl rfl ?_
  (repeat' (refine Wc.region ?_))
  refine Wl.alloc fun w1 b1 n1 s1 => ?_
  replace b1 : Bk w1 w.heap.size tErr [vi 0] := b1
  refine Wl.nil ⟨rfl, ?_⟩
  (repeat' (first | refine Wl.moveE (by conv => { lhs; whnf }) ?_ | refine Wc.seq ?_ | refine Wc.region ?_))
  refine Wk.Wl.callVX (f := g) (first := #[]) (cap := cap.toArray) rfl (h w1 n1 s1) (by simp) ?_ ?_
  · rintro c w2 ⟨e, rfl, hx, c2⟩
    (repeat' (refine Qseq.panic ?_))
    have b2 := b1.chg c2 hM
    have hz := c2.size
    unfold Qd
    refine leaves_cons (f := 24) (args := #[pE w.heap.size]) (by simp) (run_callFunc inferInstance _) ?_
    refine (caught_panic w.heap.size (vi 0) e [] w2 b2).mono ?_
    rintro q u' w4 ⟨rfl, rfl, b4, c4⟩
    exact ⟨vi e, results1 (a := .cell 2 tErr) rfl (rvOf_one rfl rfl b4), _, rfl, .inr ⟨e, rfl, w2, hx, Chg.trans n1.any c2 fun _ _ e => e, c4, by omega⟩⟩
  rintro v w2 ⟨hφ, c2⟩
  have b2 := b1.chg c2 hM
  have hz := c2.size
  (repeat' (first | refine Wl.nil ?_ | refine Qseq.normal ?_ | refine Wc.seq ?_ | refine Wc.region ?_))
  refine Wl.store1 (u := vi 0) b2 rfl (show (0 : Nat) < 1 by omega) rfl rfl fun w3 b3 c3 => ?_
  replace b3 : Bk w3 w.heap.size tErr [vi 0] := b3
  (repeat' (first | refine Wl.nil ?_ | refine Qseq.normal ?_ | refine Wc.ret ?_))
  unfold Qd
  refine leaves_cons (f := 24) (args := #[pE w.heap.size]) (by simp) (run_callFunc inferInstance _) ?_
  refine (idle_spec w.heap.size w3).mono ?_
  rintro q u' w4 ⟨rfl, rfl, rfl⟩
  exact ⟨vi 0, results1 (a := .cell 2 tErr) rfl (rvOf_one rfl rfl b3), _, rfl, .inl ⟨rfl, w2, hφ, Chg.trans n1.any c2 fun _ _ e => e, c3, by omega⟩⟩
end Go.Proofs.YtpnpllghabbhlaaGreatDoor

namespace Go.Proofs.YtpnpllghabbhlaaGreatDoor
open Go Wk
open Go.RowKit (Below)
attribute [local irreducible] Go.Calls

abbrev tStr : TypeId := 9
/-- A list of texts that begins somewhere within a row of one's own. -/
def ArgS (Pb : Nat → Prop) (w : World) (v : Value) (xs : List (List UInt8)) : Prop :=
  ∃ g off cap cur, v = .slice (some ⟨g, off, none⟩) xs.length cap ∧ Pb g ∧ w.heap[g]? = some (.cells cur tStr (0, 0)) ∧ xs.length ≤ cap ∧ cap ≤ maxLen ∧ off + cap ≤ cur.size ∧ ∀ (i : Nat) (x : List UInt8), xs[i]? = some x → cur[off + i]? = some (vs x)
theorem ArgS.rd {Pb : Nat → Prop} {w : World} {v : Value} {xs : List (List UInt8)} (h : ArgS Pb w v xs) : RdS (one vs) 1 Pb w v xs := by
  obtain ⟨g, off, cap, cur, hv, hb, hg, h1, h2, h3, h4⟩ := h
  refine .inr (.inr ⟨g, off, cap, cur, tStr, (0, 0), hv, hb, hg, h1, h2, by omega, fun i x hx => ?_⟩)
  have := h4 i x hx
  show List.take 1 (cur.toList.drop (off + i * 1)) = [vs x]
  rw [Nat.mul_one, List.take_one, List.head?_drop, Array.getElem?_toList, this]; rfl
theorem ArgS.keep {Pb : Nat → Prop} {w w' : World} {v : Value} {xs : List (List UInt8)} (h : ArgS Pb w v xs) (hk : Keep Pb w w') : ArgS Pb w' v xs := by
  obtain ⟨g, off, cap, cur, hv, hb, hg, r⟩ := h
  exact ⟨g, off, cap, cur, hv, hb, (hk g hb (heap_lt hg)).trans hg, r⟩
theorem ArgS.mono {Pb Pb' : Nat → Prop} {w : World} {v : Value} {xs : List (List UInt8)} (h : ArgS Pb w v xs) (hP : ∀ b, b < w.heap.size → Pb b → Pb' b) : ArgS Pb' w v xs := by
  obtain ⟨g, off, cap, cur, hv, hb, hg, r⟩ := h
  exact ⟨g, off, cap, cur, hv, hP g (heap_lt hg) hb, hg, r⟩
theorem ArgS.one {Pb : Nat → Prop} {w : World} {v : Value} {xs : List (List UInt8)} (h : ArgS Pb w v xs) : v.oneCell' = true := by
  obtain ⟨g, off, cap, cur, rfl, _⟩ := h; rfl
theorem argS_of {Pb : Nat → Prop} {w : World} {v : Value} {x : List UInt8} {xs : List (List UInt8)} (o : OwnS (Wk.one vs) tStr 1 Pb NoB w v (x :: xs)) : ∃ p cap, v = .slice (some p) (xs.length + 1) cap ∧ xs.length + 1 ≤ cap ∧
    ArgS Pb w (.slice (if cap = 1 then some p else (some p).map (·.add (1 * 1))) (xs.length + 1 - 1) (cap - 1)) xs := by
  have h1 := o.to1
  obtain ⟨hl, ⟨rfl, h0⟩ | ⟨g, cap, cur, rfl, hb, hg, hc, hm, hs, ht⟩⟩ := h1
  · simp at h0
  · simp only [List.length_cons] at hc ht ⊢
    refine ⟨⟨g, 0, none⟩, cap, rfl, hc, ?_⟩
    rw [Nat.add_sub_cancel]
    have key : ∀ (i : Nat) (y : List UInt8), xs[i]? = some y → cur[1 + i]? = some (vs y) := fun i y hy => by
      have hi := (List.getElem?_eq_some_iff.1 hy).1
      rw [← Array.getElem?_toList, ← List.getElem?_take_of_lt (show 1 + i < (xs.length + 1) * 1 by omega), ht, Nat.add_comm 1 i]
      show ((vs x :: xs.map vs)[i + 1]?) = _
      rw [List.getElem?_cons_succ, List.getElem?_map, hy]; rfl
    by_cases hc1 : cap = 1
    · rw [if_pos hc1]
      have : xs = [] := List.eq_nil_of_length_eq_zero (by omega)
      subst this
      exact ⟨g, 0, cap - 1, cur, rfl, hb, hg, by omega, by omega, by omega, fun i y hy => by simp at hy⟩
    · rw [if_neg hc1]
      refine ⟨g, 1, cap - 1, cur, ?_, hb, hg, by omega, by omega, by omega, key⟩
      show Value.slice (some ((⟨g, 0, none⟩ : Addr).add 1)) _ _ = _
      rw [addr_add]
section
variable {P : Program} {n : Nat} {ds : List Deferred} {C : World → Prop} {K : Fr → Prop} {F : Fr} {ops rest : List Oper} {d : Nat} {ty : TypeId} {pos : String} {aft : Array Edge}
theorem Wk.Wq.sliceFromP {x lo : Operand} {t e sz bytes : Nat} {agg : Bool} {z : Value} {k : IntKind} {p : Option Addr} {l cap a : Nat} [ht : Und P t (.slice e)] [he : ElT P e sz bytes agg z] (hx : ev n F x = .slice p l cap) (hl : ev n F lo = .int k a) (h1 : a ≤ l) (h2 : l ≤ cap)
    (c : Wq P n ds C K ops rest (upd F d (.slice (if cap = a then p else p.map (·.add (a * sz))) (l - a) (cap - a)))) : Wq P n ds C K ops (⟨some d, .slice t x (some lo) none none, ty, pos, aft, none⟩ :: rest) F := by
  refine Wq.val (fun w _ => ?_) c
  have := run_sliceS (P := P) (w := w) (p := p) (l := l) (cap := cap) (lo := some (.int k a)) (hi := none) (a := a) (b := l) ht.h he (.inr ⟨k, rfl⟩) (.inl ⟨rfl, rfl⟩) h1 h2
  simp only [execOp, hx, hl, Option.map_none, Option.map_some, Sem.run_bind, this, Result.andThen_ok, Sem.run_pure]
end
/-- The order of a line. -/
def parseM (s : List UInt8) : Option (List UInt8 × List (List UInt8)) :=
  if s.length ≤ 1048576 then match unlineW s with
    | some (x :: xs) => if mayM x xs = true then some (x, xs) else none
    | _ => none
  else none
theorem lens_of {l : List (List UInt8)} {s : List UInt8} (h : lineW l = s) : ∀ x ∈ l, x.length ≤ s.length := by
  subst h
  have hw : ∀ s : List UInt8, s.length ≤ (wordW s).length := fun s => by
    unfold wordW
    split
    · exact Nat.le_refl _
    · unfold quoteW
      have : (toks s).length ≤ (encT (toks s)).length := by
        induction toks s with
        | nil => exact Nat.zero_le _
        | cons t l ih =>
          show _ ≤ (t.enc ++ encT l).length
          rw [List.length_append, List.length_cons]
          cases t <;> simp only [Tok.enc, List.length_cons, List.length_nil] <;> omega
      rw [toks_len] at this
      rw [List.length_append, List.length_append]; omega
  intro x hx
  obtain ⟨i, hi⟩ := List.mem_iff_getElem?.1 hx
  have h1 := lineW_le l (i + 1)
  rw [lineW_take hi, List.length_append] at h1
  have := hw x
  omega
theorem unline_line {s : List UInt8} {l : List (List UInt8)} (h : unlineW s = some l) : lineW l = s := by
  unfold unlineW at h
  split at h
  · cases h; assumption
  · cases h
theorem ErrV.chg {M : Nat → Prop} {w0 w w' : World} (h : ErrV w) (h0 : ErrV w0) (c : Chg M w w') (hM : ∀ k, M k → w0.heap.size ≤ k) : ErrV w' := fun g hg => by
  obtain ⟨h1, te, pe, h2⟩ := h g hg
  obtain ⟨h3, _⟩ := h0 g hg
  refine ⟨Nat.lt_of_lt_of_le h1 c.size, te, pe, ?_⟩
  have := c.block g h1 fun e => by have := hM g e; omega
  simp only [World.cell?] at h2 ⊢
  rw [this]; exact h2
theorem Tb.chg {M : Nat → Prop} {w0 w w' : World} (h : Tb w) (h0 : Tb w0) (c : Chg M w w') (hM : ∀ k, M k → w0.heap.size ≤ k) : Tb w' := by
  unfold Tb Lib.TabIs World.var? at *
  cases hg : Tryz.prog.globalNamed "internal/strconv.uint64pow10" with
  | none => simp [hg] at h
  | some g =>
    simp only [hg, Option.bind_some] at h h0 ⊢
    have hlt : g < w.heap.size := by
      rcases Nat.lt_or_ge g w.heap.size with h' | h'
      · exact h'
      · rw [Array.getElem?_eq_none h'] at h; simp at h
    have hlt0 : g < w0.heap.size := by
      rcases Nat.lt_or_ge g w0.heap.size with h' | h'
      · exact h'
      · rw [Array.getElem?_eq_none h'] at h0; simp at h0
    rw [c.block g hlt fun e => by have := hM g e; omega]
    exact h
theorem run_buildO {w : World} {x : List UInt8} {a : Option Addr} {l c : Nat} : (Instr.build 28 #[(0, vs x), (1, .slice a l c)]).run Tryz.prog w = .ok (.agg #[vs x, .slice a l c]) w := by kernel_rfl
theorem Parse1_spec {w w0 : World} {bs bo : Nat} {s : List UInt8} {c0 : List Value} (h : Bk w bs tStr [vs s]) (ho : Bk w bo 28 c0) (hc0 : c0.length = 2) (hE : ErrV w) (ht : Tb w) (hE0 : ErrV w0) (ht0 : Tb w0) (hb0 : w0.heap.size ≤ bo) :
    Calls Tryz.prog 14 #[.pointer (some ⟨bs, 0, none⟩), .pointer (some ⟨bo, 0, none⟩)] w
      (RetX (fun _ w' => (∃ x xs u, parseM s = some (x, xs) ∧ Bk w' bo 28 [vs x, u] ∧ ArgS (fun k => w.heap.size ≤ k) w' u xs) ∧ Chg (fun k => k = bo) w w')
        (fun c w' => ∃ e, c = wrongC e ∧ (e = 4 ∧ parseM s = none) ∧ Chg (fun k => k = bo) w w')) := by
  refine calls_of_Wc Tryz.func14 rfl Tryz.ntmps14 rfl ?_
  (repeat' (first | refine Wc.seq ?_ | refine Wc.region ?_))
  refine Wl.load1 (u := vs s) rfl (h.cell (o := 0) rfl) ?_
  (repeat' (first | refine Wl.lenStr rfl ?_ | refine Wl.leq rfl rfl (fun _ => ?_) (fun _ => ?_)))
  rotate_left
  · refine Wl.callX (must_spec (b := false) (e := 4)) rfl ?_ ?_
    · rintro c w9 ⟨_, rfl, rfl⟩
      (repeat' (first | refine Qseq.panic ?_ | refine Qfn.panic ?_))
      exact ⟨4, rfl, ⟨rfl, by unfold parseM; rw [if_neg (by omega)]⟩, Chg.refl _ _⟩
    · rintro c w9 ⟨q, _⟩
      cases q
  refine Wl.callX (must_spec (b := true) (e := 4)) rfl ?_ ?_
  · rintro c w9 ⟨q, _⟩
    cases q
  rintro _ _ ⟨_, rfl, rfl⟩
  (repeat' (first | refine Wl.nil ?_ | refine Qseq.normal ?_ | refine Wc.seq ?_ | refine Wc.region ?_))
  refine Wl.load1 (u := vs s) rfl (h.cell (o := 0) rfl) ?_
  refine Wl.call (FieldsP_spec hE (s := s) (by omega)) rfl ?_
  rintro r w1 ⟨hr, n1⟩
  have hpm : parseM s = match unlineW s with
    | some (x :: xs) => if mayM x xs = true then some (x, xs) else none
    | _ => none := by unfold parseM; rw [if_pos (by omega)]
  unfold FldR at hr
  cases hu : unlineW s with
  | none =>
    rw [hu] at hr hpm
    dsimp only at hr hpm
    subst hr
    (repeat' (first | refine Wl.moveE (by conv => { lhs; whnf }) ?_ | refine Wl.assignE (by conv => { lhs; whnf }) ?_ | refine Wl.nil ?_ | refine Wl.extract rfl rfl ?_ | refine Wl.guardN rfl rfl ?_ | refine Wl.pickFE rfl (by conv => { lhs; whnf }) ?_ | refine Qseq.normal ?_ | refine Wc.seq ?_ | refine Wc.region ?_ | (refine Wl.eql rfl rfl (fun _ => ?_) (fun _ => ?_) <;> (first | (exfalso; omega) | skip))))
    refine Wl.callX (must_spec (b := false) (e := 4)) rfl ?_ ?_
    · rintro c w9 ⟨_, rfl, rfl⟩
      (repeat' (first | refine Qseq.panic ?_ | refine Qfn.panic ?_))
      exact ⟨4, rfl, ⟨rfl, hpm⟩, n1.any⟩
    · rintro c w9 ⟨q, _⟩
      cases q
  | some l =>
    rw [hu] at hr hpm
    obtain ⟨v, rfl, o⟩ := hr
    have hlens := lens_of (unline_line hu)
    cases l with
    | nil =>
      obtain ⟨a, cap, rfl, _, _⟩ := o.form
      dsimp only at hpm
      (repeat' (first | refine Wl.moveE (by conv => { lhs; whnf }) ?_ | refine Wl.assignE (by conv => { lhs; whnf }) ?_ | refine Wl.nil ?_ | refine Wl.extract rfl rfl ?_ | refine Wl.guardY rfl rfl ?_ | refine Wl.pickTE rfl (by conv => { lhs; whnf }) ?_ | refine Wl.lenS rfl ?_ | refine Qseq.normal ?_ | refine Wc.seq ?_ | refine Wc.region ?_ | (refine Wl.gtr rfl rfl (fun _ => ?_) (fun _ => ?_) <;> (first | (exfalso; contradiction) | skip)) | (refine Wl.eql rfl rfl (fun _ => ?_) (fun _ => ?_) <;> (first | (exfalso; omega) | skip))))
      refine Wl.callX (must_spec (b := false) (e := 4)) rfl ?_ ?_
      · rintro c w9 ⟨_, rfl, rfl⟩
        (repeat' (first | refine Qseq.panic ?_ | refine Qfn.panic ?_))
        exact ⟨4, rfl, ⟨rfl, hpm⟩, n1.any⟩
      · rintro c w9 ⟨q, _⟩
        cases q
    | cons x xs =>
      dsimp only at hpm
      obtain ⟨p, cap, hv, hcap, ha⟩ := argS_of o
      have hrd := o.rd goodVs.mo
      subst hv
      have hxl := hlens x List.mem_cons_self
      (repeat' (first | refine Wl.moveE (by conv => { lhs; whnf }) ?_ | refine Wl.assignE (by conv => { lhs; whnf }) ?_ | refine Wl.nil ?_ | refine Wl.extract rfl rfl ?_ | refine Wl.guardY rfl rfl ?_ | refine Wl.pickTE rfl (by conv => { lhs; whnf }) ?_ | refine Wl.lenS rfl ?_ | refine Qseq.normal ?_ | refine Wc.seq ?_ | refine Wc.region ?_ | (refine Wl.gtr rfl rfl (fun _ => ?_) (fun _ => ?_) <;> (first | (exfalso; omega) | skip)) | (refine Wl.eql rfl rfl (fun _ => ?_) (fun _ => ?_) <;> (first | (exfalso; omega) | skip))))
      refine Wl.callX (must_spec (b := true) (e := 4)) rfl ?_ ?_
      · rintro c w9 ⟨q, _⟩
        cases q
      rintro _ _ ⟨_, rfl, rfl⟩
      (repeat' (first | refine Wl.nil ?_ | refine Qseq.normal ?_ | refine Wc.seq ?_))
      have bo1 := ho.chg n1 fun e => e
      have hz := n1.size
      have hbo := ho.lt
      refine Wc.regionT rfl (by kernel_rfl) (fun w' => New w1 w') (Chg.drew _ _) ?_
      intro w2 n2
      (repeat' (refine Wt.quiet rfl (Wq.moveE (by conv => { lhs; whnf }) (Wq.nil ?_))))
      refine Wt.quiet rfl (Wq.idxAddr (j := 0) (y := x) hrd (fun w' hw => Chg.keep hw fun _ _ _ e => e) rfl rfl (by omega) rfl fun bb off cs hcl hR hat => Wq.nil ?_)
      obtain rfl : cs = [vs x] := hR
      refine Wt.quiet rfl (Wq.load1 (u := vs x) rfl (fun w' hw => (hat w' hw).get 0 rfl) (Wq.nil ?_))
      clear hat
      (repeat' (refine Wt.quiet rfl (Wq.moveE (by conv => { lhs; whnf }) (Wq.nil ?_))))
      refine Wt.quiet rfl (Wk.Wq.sliceFromP (a := 1) rfl rfl (by omega) (by omega) (Wq.nil ?_))
      generalize (Value.slice (if cap = 1 then some p else (some p).map (·.add (1 * 1))) (xs.length + 1 - 1) (cap - 1)) = u at ha ⊢
      obtain ⟨ua, ul, uc, rfl⟩ : ∃ ua ul uc, u = .slice ua ul uc := by
        obtain ⟨g, off, c, cur, e, _⟩ := ha
        exact ⟨_, _, _, e⟩
      refine Wt.chain rfl (Wl.buildG rfl (run_buildO (x := x)) ?_)
      refine Wl.nil ⟨rfl, n2, ?_⟩
      have bo2 := bo1.chg n2 fun e => e
      have n12 := New.trans n1 n2
      have hz2 := n2.size
      refine Wt.last rfl (Wl.storeB (u := .agg #[vs x, .slice ua ul uc]) (new := [vs x, .slice ua ul uc]) bo2 rfl rfl rfl rfl (by rw [hc0]; exact Nat.le_refl _) (by intro c hc; rcases List.mem_cons.1 hc with rfl | hc; rfl; rw [List.mem_singleton.1 hc]; rfl) fun w3 b3 c3 s3 => ?_)
      have hset : setRange c0 0 [vs x, .slice ua ul uc] = [vs x, .slice ua ul uc] := by
        unfold setRange
        rw [List.take_zero, List.nil_append, List.drop_eq_nil_of_le (by rw [hc0]; exact Nat.le_refl _), List.append_nil]
      rw [hset] at b3
      have ha3 : ArgS (fun k => w.heap.size ≤ k) w3 (.slice ua ul uc) xs := (ha.keep n2.keep).keep (c3.keep fun k _ hk e => by omega)
      have c03 : Chg (fun k => k = bo) w w3 := Chg.trans n12.any c3 fun _ _ e => e
      have hE3 : ErrV w3 := hE.chg hE0 c03 fun k e => by omega
      have ht3 : Tb w3 := ht.chg ht0 c03 fun k e => by omega
      (repeat' (first | refine Wl.nil ?_ | refine Qseq.normal ?_ | refine Wc.region ?_))
      refine Wl.loadB b3 rfl rfl ?_
      refine Wl.callX (check_spec (e := 4) ha3.rd hE3 ht3 (by omega) fun y hy => ?_) rfl ?_ ?_
      · have := hlens y (List.mem_cons_of_mem _ hy); omega
      · rintro c w4 ⟨hm, rfl, n4⟩
        (repeat' (refine Qfn.panic ?_))
        exact ⟨4, rfl, ⟨rfl, by rw [hpm, hm]; rfl⟩, Chg.trans c03 n4.any fun _ _ e => e⟩
      rintro _ w4 ⟨hm, rfl, n4⟩
      (repeat' (refine Wl.nil ?_))
      exact Qfn.end0 rfl ⟨⟨x, xs, _, by rw [hpm, hm]; rfl, b3.chg n4 fun e => e, ha3.keep n4.keep⟩, Chg.trans c03 n4.any fun _ _ e => e⟩
/-- What Parse answers. -/
def OrdR (lo : Nat) (w : World) (s : List UInt8) (r : Value) : Prop := match parseM s with
  | some (x, xs) => ∃ u, r = .tuple #[.agg #[vs x, u], vi 0] ∧ ArgS (fun k => lo ≤ k) w u xs
  | none => r = .tuple #[.agg #[vs [], .slice none 0 0], vi 4]
theorem run_buildO0 {w : World} : (Instr.build 28 #[]).run Tryz.prog w = .ok (.agg #[vs [], .slice none 0 0]) w := by kernel_rfl
theorem Parse_spec' {w : World} {s : List UInt8} (hE : ErrV w) (ht : Tb w) :
    Calls Tryz.prog 5 #[vs s] w (Ret fun r w' => OrdR w.heap.size w' s r ∧ New w w') := by
  refine calls_of_Wc Tryz.func5 rfl Tryz.ntmps5 rfl ?_
  (repeat' (first | refine Wc.seq ?_ | refine Wc.region ?_))
  refine Wl.box rfl fun w1 b1 n1 s1 => ?_
  replace b1 : Bk w1 w.heap.size tStr [vs s] := b1
  skip
  refine Wl.alloc fun w2 b2 n2 s2 => ?_
  replace b2 : Bk w2 w1.heap.size 28 [vs [], .slice none 0 0] := b2
  (repeat' (first | refine Wl.assignE (by conv => { lhs; whnf }) ?_ | refine Wl.nil ?_ | refine Qseq.normal ?_ | refine Wc.seq ?_ | refine Wc.region ?_))
  refine Wl.alloc fun w3 b3 n3 s3 => ?_
  replace b3 : Bk w3 w2.heap.size 28 [vs [], .slice none 0 0] := b3
  (repeat' (first | refine Wl.nil ?_ | refine Qseq.normal ?_ | refine Wc.seq ?_ | refine Wc.region ?_))
  refine Wl.makeFunc (f1 := []) (c1 := [.pointer (some ⟨w.heap.size, 0, none⟩), .pointer (some ⟨w2.heap.size, 0, none⟩)]) rfl rfl ?_
  -- MARK
  have n12 := New.trans n1 n2
  have n13 := New.trans n12 n3
  have hz1 := n1.size
  have hz2 := n2.size
  refine Wl.call (caught_spec (w := w3) (g := 14) (cap := [.pointer (some ⟨w.heap.size, 0, none⟩), .pointer (some ⟨w2.heap.size, 0, none⟩)]) (M := fun k => k = w2.heap.size)
    (φ := fun w' => ∃ x xs u, parseM s = some (x, xs) ∧ Bk w' w2.heap.size 28 [vs x, u] ∧ ArgS (fun k => w3.heap.size < k) w' u xs) (X := fun e _ => e = 4 ∧ parseM s = none) (by omega) fun w4 n4 s4 => ?_) rfl ?_
  · have b1' := (((b1.chg n2 fun e => e).chg n3 fun e => e).chg n4 fun e => e)
    refine RetX.mono (Parse1_spec (w := w4) (w0 := w) b1' (b3.chg n4 fun e => e) rfl ((hE.new n13).new n4) ((ht.new n13).new n4) hE ht (by omega)) ?_ ?_
    · rintro v w5 ⟨⟨x, xs, u, hp, hb, ha⟩, c5⟩
      exact ⟨⟨x, xs, u, hp, hb, ha.mono fun k _ e => by omega⟩, c5⟩
    · rintro c w5 ⟨e, rfl, hx, c5⟩
      exact ⟨e, rfl, hx, c5⟩
  have b2' := b2.chg n3 fun e => e
  unfold OrdR
  rintro r w6 (⟨rfl, w5, ⟨x, xs, u, hp, hb, ha⟩, c5, c6, hz5⟩ | ⟨e, rfl, w5, ⟨rfl, hp⟩, c5, c6, hz5⟩)
  · rw [hp]
    have hb6 := hb.chg c6 (by omega)
    have b26 := (b2'.chg c5 (by omega)).chg c6 (by omega)
    have ha6 := ha.keep (w' := w6) (c6.keep fun k _ hk e => by omega)
    obtain ⟨ua, ul, uc, rfl⟩ : ∃ ua ul uc, u = .slice ua ul uc := by
      obtain ⟨g, off, c, cur, e, _⟩ := ha
      exact ⟨_, _, _, e⟩
    have c36 : Chg (fun k => k = w2.heap.size ∨ k = w3.heap.size) w3 w6 := (c5.mono fun k _ e => .inl e).trans c6 fun k _ e => .inr e
    have hz6 := c36.size
    (repeat' (first | refine Wl.moveE (by conv => { lhs; whnf }) ?_ | refine Wl.assignE (by conv => { lhs; whnf }) ?_ | refine Wl.nil ?_ | refine Qseq.normal ?_ | refine Wc.seq ?_ | refine Wc.region ?_ | refine Wc.skip ?_ | refine Wc.condF rfl ?_ | (refine Wl.neq rfl rfl (fun _ => ?_) (fun _ => ?_) <;> (first | (exfalso; omega) | skip))))
    refine Wl.loadB hb6 rfl rfl ?_
    refine Wl.storeB (u := .agg #[vs x, .slice ua ul uc]) (new := [vs x, .slice ua ul uc]) b26 rfl rfl rfl rfl (Nat.le_refl 2) (by intro c hc; rcases List.mem_cons.1 hc with rfl | hc; rfl; rw [List.mem_singleton.1 hc]; rfl) fun w7 b7 c7 s7 => ?_
    replace b7 : Bk w7 w1.heap.size 28 [vs x, .slice ua ul uc] := b7
    (repeat' (first | refine Wl.assignE (by conv => { lhs; whnf }) ?_ | refine Wl.nil ?_ | refine Qseq.normal ?_ | refine Wc.ret ?_))
    refine Qfn.retR (results2 (a := .cell 2 28) (b := .tmp 3) rfl (rvOf_agg rfl rfl b7 rfl) (rvOf_tmp rfl)) ⟨_, rfl, ⟨_, rfl, (ha6.keep (c7.keep fun k _ hk e => by omega)).mono fun k _ e => by omega⟩, ?_⟩
    exact (((Chg.trans n13.any c36 fun _ _ e => e).mono (M' := fun k => (k = w2.heap.size ∨ k = w3.heap.size) ∨ k = w1.heap.size) fun _ _ e => .inl e).trans c7 fun _ _ e => .inr e).toNew fun k hk e => by omega
  · rw [hp]
    have b26 := (b2'.chg c5 (by omega)).chg c6 (by omega)
    have c36 : Chg (fun k => k = w2.heap.size ∨ k = w3.heap.size) w3 w6 := (c5.mono fun k _ e => .inl e).trans c6 fun k _ e => .inr e
    have hz6 := c36.size
    (repeat' (first | refine Wl.moveE (by conv => { lhs; whnf }) ?_ | refine Wl.assignE (by conv => { lhs; whnf }) ?_ | refine Wl.nil ?_ | refine Qseq.normal ?_ | refine Wc.seq ?_ | refine Wc.region ?_ | refine Wc.condT rfl ?_ | (refine Wl.neq rfl rfl (fun _ => ?_) (fun _ => ?_) <;> (first | (exfalso; omega) | skip))))
    refine Wl.buildG rfl run_buildO0 ?_
    (repeat' (refine Wl.moveE (by conv => { lhs; whnf }) ?_))
    refine Wl.storeB (u := .agg #[vs [], .slice none 0 0]) (new := [vs [], .slice none 0 0]) b26 rfl rfl rfl rfl (Nat.le_refl 2) (by intro c hc; rcases List.mem_cons.1 hc with rfl | hc; rfl; rw [List.mem_singleton.1 hc]; rfl) fun w7 b7 c7 s7 => ?_
    replace b7 : Bk w7 w1.heap.size 28 [vs [], .slice none 0 0] := b7
    (repeat' (first | refine Wl.assignE (by conv => { lhs; whnf }) ?_ | refine Wl.nil ?_ | refine Qseq.normal ?_ | refine Wc.ret ?_ | refine Qseq.ret ?_))
    refine Qfn.retR (results2 (a := .cell 2 28) (b := .tmp 3) rfl (rvOf_agg rfl rfl b7 rfl) (rvOf_tmp rfl)) ⟨_, rfl, rfl, ?_⟩
    exact (((Chg.trans n13.any c36 fun _ _ e => e).mono (M' := fun k => (k = w2.heap.size ∨ k = w3.heap.size) ∨ k = w1.heap.size) fun _ _ e => .inl e).trans c7 fun _ _ e => .inr e).toNew fun k hk e => by omega
end Go.Proofs.YtpnpllghabbhlaaGreatDoor
