/-
  Walks of words.Name and of reveilleref01.Name.
-/
import Derived.Test.YtjpebmgllfiloaaDoorNav
import Derived.Test.YtjpebmgllfiloaaDoorFacts
import Derived.Test.YtjpebmgllfiloaaDoorShelf
import Derived.Lib.IndexLaws
namespace Go.Proofs.YtjpebmgllfiloaaDoor
open Go Wk
open Go.RowKit (Below)
attribute [local irreducible] Go.Calls

theorem get_byte (l : List UInt8) {k : Nat} (h : k < l.length) : ∃ c, l[k]? = some c := ⟨l[k], List.getElem?_eq_getElem h⟩
def signs : List UInt8 := "abcdefghijklmnopqrstuvwxyz0123456789,._+-@#?".toUTF8.data.toList
theorem signs_eq : signs = [97, 98, 99, 100, 101, 102, 103, 104, 105, 106, 107, 108, 109, 110, 111, 112, 113, 114, 115, 116, 117, 118, 119, 120, 121, 122, 48, 49, 50, 51, 52, 53, 54, 55, 56, 57, 44, 46, 95, 43, 45, 64, 35, 63] := by decide
def nameOk (s : List UInt8) : Bool := decide (s ≠ [] ∧ s.length ≤ 31) && s.all fun c => signs.contains c
theorem IndexByte_spec {w : World} {l : List UInt8} {c : UInt8} : Calls Tryd.prog 73 #[vs l, .int .u8 c.toNat] w (Ret fun r w' => r = vi (Lib.indexByte l c) ∧ w = w') := by
  refine (Tryd.strings_IndexByte ⟨l.toArray⟩ c.toNat w).mono ?_
  rintro e w' ⟨rfl, rfl⟩
  exact ⟨_, rfl, by simp, rfl⟩
theorem index_neg {l : List UInt8} {c : UInt8} (h : Lib.indexByte l c < 0) : l.contains c = false := by
  have hge := Lib.indexByte_ge l c
  have := Lib.indexByte_none (show Lib.indexByte l c = -1 by omega)
  rw [Bool.eq_false_iff]
  intro hc
  obtain ⟨k, hk⟩ := List.mem_iff_getElem?.1 (List.contains_iff_mem.1 hc)
  exact this k hk
theorem index_pos {l : List UInt8} {c : UInt8} (h : 0 ≤ Lib.indexByte l c) : l.contains c = true := by
  obtain ⟨o, ho⟩ := Int.eq_ofNat_of_zero_le h
  exact List.contains_iff_mem.2 (List.mem_of_getElem? (Lib.indexByte_some ho).1)
theorem all_step {α : Type} {p : α → Bool} {xs : List α} {i : Nat} {x : α} (h : xs[i]? = some x) (hi : (xs.take i).all p = true) (hx : p x = true) : (xs.take (i + 1)).all p = true := by
  rw [List.take_add_one, h, List.all_append, hi]; simp [hx]
theorem all_fail {α : Type} {p : α → Bool} {xs : List α} {i : Nat} {x : α} (h : xs[i]? = some x) (hx : p x = false) : xs.all p = false := by
  rw [List.all_eq_false]
  exact ⟨x, List.mem_of_getElem? h, by simp [hx]⟩
def nameNo (s : List UInt8) : Int := if nameOk s = true then 0 else 10
theorem Name_spec {w : World} {s : List UInt8} : Calls Tryd.prog 47 #[vs s] w (Ret fun r w' => r = vi (nameNo s) ∧ New w w') := by
  refine calls_of_Wc (n := 23) Tryd.func47 rfl rfl rfl ?_
  (repeat' (first | refine Wl.moveE (by conv => { lhs; whnf }) ?_ | refine Wl.assignE (by conv => { lhs; whnf }) ?_ | refine Wl.nil ?_ | refine Wl.guardY rfl rfl ?_ | refine Wl.guardN rfl rfl ?_ | refine Wl.pickTE rfl (by conv => { lhs; whnf }) ?_ | refine Wl.pickFE rfl (by conv => { lhs; whnf }) ?_ | refine Wl.lenStr rfl ?_ | refine Qseq.normal ?_ | refine Wc.seq ?_ | refine Wc.region ?_ | refine Wc.skip ?_ | refine Wc.ret ?_ | refine Qseq.ret ?_ | refine Wc.condT rfl ?_ | refine Wc.condF rfl ?_ | refine Wl.gtr rfl rfl (fun _ => ?_) (fun _ => ?_) | refine Wl.seql rfl rfl (fun _ => ?_) (fun _ => ?_)))
  · have e : s = [] := by assumption
    subst e
    exact Qfn.ret1 rfl rfl ⟨_, rfl, rfl, Chg.refl _ _⟩
  · refine Qfn.ret1 rfl rfl ⟨_, rfl, ?_, Chg.refl _ _⟩
    unfold nameNo nameOk
    rw [decide_eq_false (by omega)]; rfl
  · have hne : s ≠ [] := by assumption
    have hle : s.length ≤ 31 := by omega
    refine Wl.strBytes rfl (by simp only [maxLen]; omega) fun w1 cap C fr _ _ _ n1 _ hr => ?_
    (repeat' (first | refine Wl.moveE (by conv => { lhs; whnf }) ?_ | refine Wl.nil ?_ | refine Wl.lenS rfl ?_ | refine Qseq.normal ?_ | refine Wc.block ?_))
    refine Wc.loop (σ := Nat) (fun i => [(13, .slice (some ⟨w.heap.size, 0, none⟩) s.length cap), (14, vi s.length), (15, vi i)]) (fun i w' => i ≤ s.length ∧ (s.take i).all (fun c => signs.contains c) = true ∧ w1 = w') (fun i => s.length - i) 0 ⟨rfl, rfl, rfl, trivial⟩ ⟨Nat.zero_le _, rfl, rfl⟩ ?_
    rintro i G _ ⟨hi, hall, rfl⟩
    simp only [upds]
    (repeat' (first | refine Wl.assignE (by conv => { lhs; whnf }) ?_ | refine Wl.nil ?_ | refine Qseq.normal ?_ | refine Wc.seq ?_ | refine Wc.region ?_ | refine Wc.block ?_ | refine Wc.skip ?_ | refine Wc.exit ?_ | refine Wc.ret ?_ | refine Qseq.exit ?_ | refine Qblk.hit ?_ | refine Qloop.exit ?_ | refine Wc.condT rfl ?_ | refine Wc.condF rfl ?_ | refine Wl.lss rfl rfl (fun _ => ?_) (fun _ => ?_)))
    · obtain ⟨c, hc⟩ := get_byte s (k := i) (by omega)
      refine Wl.idxAddrV hr rfl rfl (by omega) hc fun b o hcell => ?_
      refine Wl.load1 rfl hcell ?_
      (repeat' (first | refine Wl.moveE (by conv => { lhs; whnf }) ?_ | refine Wl.assignE (by conv => { lhs; whnf }) ?_ | refine Wl.nil ?_ | refine Qseq.normal ?_ | refine Wc.seq ?_ | refine Wc.region ?_))
      refine Wl.call (IndexByte_spec (l := signs) (c := c)) (by rw [signs_eq]; rfl) ?_
      rintro _ _ ⟨rfl, rfl⟩
      (repeat' (first | refine Wl.moveE (by conv => { lhs; whnf }) ?_ | refine Wl.assignE (by conv => { lhs; whnf }) ?_ | refine Wl.nil ?_ | refine Qseq.normal ?_ | refine Wc.seq ?_ | refine Wc.region ?_ | refine Wc.skip ?_ | refine Wc.ret ?_ | refine Qseq.ret ?_ | refine Qblk.normal ?_ | refine Qblk.ret ?_ | refine Qloop.ret ?_ | refine Wc.condT rfl ?_ | refine Wc.condF rfl ?_ | refine Wl.add rfl rfl (by omega) (by omega) ?_ | refine Wl.lss rfl rfl (fun _ => ?_) (fun _ => ?_)))
      · refine Qfn.ret1 rfl rfl ⟨_, rfl, ?_, n1⟩
        unfold nameNo nameOk
        rw [all_fail hc (index_neg (by assumption)), Bool.and_false]
        rfl
      · exact Qloop.normal (i + 1) ⟨rfl, rfl, rfl, trivial⟩ ⟨by omega, all_step hc hall (index_pos (by assumption)), rfl⟩ (by omega)
    · have e : i = s.length := by omega
      subst e
      rw [List.take_length] at hall
      refine Qfn.ret1 rfl rfl ⟨_, rfl, ?_, n1⟩
      unfold nameNo nameOk
      rw [hall, decide_eq_true ⟨hne, hle⟩]; rfl
end Go.Proofs.YtjpebmgllfiloaaDoor
