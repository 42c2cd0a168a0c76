/-
  A text parted at one byte: strings.Split.
-/
import Derived.Test.YtjpebmgllfiloaaDoorNm
import Derived.Shelf.Strings.Split
import Derived.Shelf.Strings.SplitShaped
namespace Go.Proofs.YtjpebmgllfiloaaDoor
open Go Wk
open Go.RowKit (Below)
attribute [local irreducible] Go.Calls

def splitR (c : UInt8) : List UInt8 → List (List UInt8)
  | [] => [[]]
  | b :: l => if b = c then [] :: splitR c l else (match splitR c l with | h :: t => (b :: h) :: t | [] => [[b]])
theorem splitR_free {c : UInt8} : ∀ {l : List UInt8}, (∀ b ∈ l, b ≠ c) → splitR c l = [l]
  | [], _ => rfl
  | b :: l, h => by
    rw [splitR, if_neg (h b (by simp)), splitR_free fun x hx => h x (by simp [hx])]
theorem splitR_at {c : UInt8} {r : List UInt8} : ∀ {p : List UInt8}, (∀ b ∈ p, b ≠ c) → splitR c (p ++ c :: r) = p :: splitR c r
  | [], _ => by simp [splitR]
  | b :: l, h => by
    rw [List.cons_append, splitR, if_neg (h b (by simp)), splitR_at fun x hx => h x (by simp [hx])]
theorem splitR_ne (c : UInt8) : ∀ l : List UInt8, splitR c l ≠ []
  | [] => by simp [splitR]
  | b :: l => by rw [splitR]; split; simp; split <;> simp
theorem splitR_length (c : UInt8) : ∀ l : List UInt8, (splitR c l).length = l.count c + 1
  | [] => rfl
  | b :: l => by
    have ih := splitR_length c l
    rw [splitR, List.count_cons]
    split
    · rename_i e; simp [ih, e]
    · rename_i e
      have hne := splitR_ne c l
      revert ih hne
      generalize splitR c l = q
      intro ih hne
      cases q with
      | nil => exact absurd rfl hne
      | cons h t => simp only [List.length_cons] at ih ⊢; simp [e]; omega
theorem splitK_splitR (c : UInt8) : ∀ (k : Nat) (l : List UInt8), l.count c = k → Lib.splitK [c] 0 k l = splitR c l
  | 0, l, h => by
    rw [splitR_free fun b hb e => by subst e; exact absurd (List.count_pos_iff.2 hb) (by omega)]
    rfl
  | k + 1, l, h => by
    have hge := Lib.indexByte_ge l c
    have hne : Lib.indexByte l c ≠ -1 := fun e => by
      obtain ⟨j, hj⟩ := List.mem_iff_getElem?.1 (List.count_pos_iff.1 (show 0 < l.count c by omega))
      exact Lib.indexByte_none e j hj
    obtain ⟨o, ho⟩ := Int.eq_ofNat_of_zero_le (show 0 ≤ Lib.indexByte l c by omega)
    obtain ⟨h1, h2⟩ := Lib.indexByte_some ho
    obtain ⟨hlt, he⟩ := List.getElem?_eq_some_iff.1 h1
    have hl : l = l.take o ++ c :: l.drop (o + 1) := by
      conv => lhs; rw [← List.take_append_drop o l, List.drop_eq_getElem_cons hlt, he]
    have hfree : ∀ b ∈ l.take o, b ≠ c := fun b hb e => by
      subst e
      obtain ⟨j, hj⟩ := List.mem_iff_getElem?.1 hb
      rw [List.getElem?_take] at hj
      split at hj
      · exact h2 j ‹_› hj
      · cases hj
    have hc0 : (l.take o).count c = 0 := List.count_eq_zero.2 fun hm => hfree c hm rfl
    have hcd : (l.drop (o + 1)).count c = k := by
      rw [hl, List.count_append, hc0, List.count_cons_self] at h
      omega
    have hi : (Lib.index l [c] == -1) = false := by rw [Lib.index_one, ho]; simp
    unfold Lib.splitK
    rw [hi, Lib.index_one, ho]
    simp only [Bool.false_eq_true, if_false, Int.toNat_natCast, Nat.add_zero, List.length_singleton]
    rw [splitK_splitR c k _ hcd]
    conv => rhs; rw [hl]
    rw [splitR_at hfree]

theorem Split_spec {l : List UInt8} {w : World} (hl : l.length ≤ 2000000) :
    Calls Tryd.prog 79 #[vs l, vs [47]] w (Ret fun r w' => OwnS (one vs) 9 1 (fun b => w.heap.size ≤ b) (fun _ => False) w' r (splitR 47 l) ∧ New w w') := by
  refine calls_of_Wc (n := 8) Tryd.func79 rfl rfl rfl ?_
  (repeat' (first | refine Wl.moveE (by conv => { lhs; whnf }) ?_ | refine Wl.assignE (by conv => { lhs; whnf }) ?_ | refine Wl.nil ?_ | refine Qseq.normal ?_ | refine Wc.seq ?_ | refine Wc.region ?_))
  have hsz : (⟨l.toArray⟩ : ByteArray).size = l.length := by simp [ByteArray.size]
  have hcnt : Lib.countB ⟨l.toArray⟩ ⟨#[47]⟩ = l.count 47 := Lib.count_one 47 l
  have hle : l.count 47 ≤ l.length := List.count_le_length
  have hC : Calls Tryd.prog 90 #[.string ⟨l.toArray⟩, .string ⟨#[47]⟩] w fun e w' => e = .returned (.int .i64 (Lib.countB ⟨l.toArray⟩ ⟨#[47]⟩)) ∧ w' = w := by
    refine (Tryd.strings_Count_one ⟨l.toArray⟩ 47 w).mono fun e w' h => ⟨?_, h.2⟩
    rw [h.1, hcnt]; rfl
  have hI : ∀ (x : ByteArray) (c : Array Value), x.size ≤ (⟨l.toArray⟩ : ByteArray).size → Calls Tryd.prog 91 #[.string x, .string ⟨#[47]⟩] (w.alloc (.cells c 9)) fun e w' => e = .returned (.int .i64 (Lib.indexB x ⟨#[47]⟩)) ∧ w' = w.alloc (.cells c 9) := by
    intro x c _
    refine (Tryd.strings_Index_one x 47 _).mono fun e w' h => ⟨?_, h.2⟩
    rw [h.1]
    show _ = Ending.returned (Value.int .i64 (Lib.index x.data.toList [47]))
    rw [Lib.index_one]
  have core := Any.strings_genSplit_core Tryd.lays221 (by kernel_rfl) ⟨l.toArray⟩ ⟨#[47]⟩ 0 (-1) (l.count 47 + 1) w (by rw [hsz]; omega) (Nat.le_refl 1) (Nat.zero_le _) hI hC (by decide) (by decide) (by rw [if_pos (by decide), hcnt, hsz]; omega)
  have hdata : (Lib.splitB ⟨#[47]⟩ 0 (l.count 47) ⟨l.toArray⟩).map (·.data.toList) = splitR 47 l := by
    rw [Lib.splitB_data]; exact splitK_splitR 47 _ l rfl
  have hlen := congrArg List.length hdata
  simp only [List.length_map] at hlen
  have hln : (Lib.splitB ⟨#[47]⟩ 0 (l.count 47) ⟨l.toArray⟩).length = l.count 47 + 1 := Lib.splitB_all ⟨#[47]⟩ (Nat.le_refl 1) 0 _ _ hcnt
  have hcells : (Lib.cellsOf (Lib.splitB ⟨#[47]⟩ 0 (l.count 47) ⟨l.toArray⟩) (l.count 47 + 1)) = ((splitR 47 l).map vs).toArray := by
    unfold Lib.cellsOf
    rw [hln, Nat.sub_self, List.replicate_zero, List.append_nil, ← hdata, List.map_map]
    rfl
  refine Wl.call (φ := fun r w' => OwnS (one vs) 9 1 (fun b => w.heap.size ≤ b) (fun _ => False) w' r (splitR 47 l) ∧ New w w') (core.mono fun e w' h => ⟨_, h.1, ?_, ?_⟩) rfl ?_
  · rw [h.2, Nat.add_sub_cancel, hcells, hlen]
    refine ⟨(splitR 47 l).map vs, ⟨by simp, .inr ⟨_, _, _, rfl, Nat.le_refl _, heap_alloc_new w _, ?_, by simp only [maxLen]; omega, ?_, ?_⟩⟩, fun i x hx => ?_⟩
    · omega
    · simp only [List.size_toArray, List.length_map]; omega
    · rw [Nat.mul_one, List.take_of_length_le (by simp)]
    · rw [Nat.mul_one]
      show List.take 1 (List.drop i (List.map vs _)) = [vs x]
      obtain ⟨h1, h2⟩ := List.getElem?_eq_some_iff.1 hx
      rw [List.drop_eq_getElem_cons (by simpa using h1), List.getElem_map, h2]; rfl
  · rw [h.2]; exact Chg.alloc _ _ _
  · rintro v w1 ⟨h1, n1⟩
    (repeat' (first | refine Wl.assignE (by conv => { lhs; whnf }) ?_ | refine Wl.nil ?_ | refine Qseq.normal ?_ | refine Wc.ret ?_))
    exact Qfn.ret1 rfl rfl ⟨_, rfl, h1, n1⟩
end Go.Proofs.YtjpebmgllfiloaaDoor
