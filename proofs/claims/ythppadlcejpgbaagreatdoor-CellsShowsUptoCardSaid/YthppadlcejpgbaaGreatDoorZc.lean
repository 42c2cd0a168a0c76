/-
  Texts of this claim, one behind the other: Jr, Ja, Jz, Jk, Jg, Jf, If, Jp, Sq, Jm, Mix, Nav, Row, Lex, Cut, Lit, Js.
-/
import Derived.Test.YthppadlcejpgbaaGreatDoorZb
import Derived.Lib.IndexLaws
import Derived.Lib.IfaceEq
import Derived.WideLaws
import Derived.Shelf.Strings.Split
import Derived.Shelf.Strings.SplitShaped
import Derived.Lib.Join
import Derived.Maps.Keyed
namespace Go.Proofs.YthppadlcejpgbaaGreatDoor
open Go Wk
open Go.RowKit (Below)
attribute [local irreducible] Go.Calls

theorem Cell_spec {w : World} {b : Nat} {l : List UInt8} (h : Bk w b 57 [vs l]) :
    Calls Tryz.prog 8 #[.pointer (some ⟨b, 0, none⟩)] w (Ret fun r w' => r = .tuple #[.int .u32 (IntKind.u32.wrap (wide l 1).1), vi (wide l 1).2.1] ∧ Bk w' b 57 [vs (wide l 1).2.2] ∧ Chg (fun k => k = b) w w') := by
  refine calls_of_Wc (n := 14) Tryz.func8 rfl rfl rfl ?_
  (repeat' (first | refine Wl.moveE (by conv => { lhs; whnf }) ?_ | refine Wl.assignE (by conv => { lhs; whnf }) ?_ | refine Wl.nil ?_ | refine Qseq.normal ?_ | refine Wc.seq ?_ | refine Wc.region ?_))
  refine Wl.call (Wide_spec (n := 1) h) rfl ?_
  rintro _ w1 ⟨rfl, h1, c1⟩
  (repeat' (first | refine Wl.moveE (by conv => { lhs; whnf }) ?_ | refine Wl.assignE (by conv => { lhs; whnf }) ?_ | refine Wl.nil ?_ | refine Wl.extract rfl rfl ?_ | refine Qseq.normal ?_ | refine Wc.seq ?_ | refine Wc.region ?_ | refine Wc.ret ?_ | refine Wl.convI rfl ?_))
  exact Qfn.ret2 rfl rfl rfl ⟨_, rfl, rfl, h1, c1⟩

/-- What the next text of l is: the text, the answer's code, and what is left. -/
def text (l : List UInt8) : List UInt8 × Int × List UInt8 :=
  if 0 ≤ Lib.indexByte l 0 then (l.take (Lib.indexByte l 0).toNat, 0, l.drop ((Lib.indexByte l 0).toNat + 1)) else ([], 4, l)
theorem index_none {l : List UInt8} {c : UInt8} (h : ∀ j : Nat, l[j]? ≠ some c) : ¬ 0 ≤ Lib.indexByte l c := by
  intro hi
  obtain ⟨o, ho⟩ := Int.eq_ofNat_of_zero_le hi
  exact h o (Lib.indexByte_some ho).1
theorem index_at {l : List UInt8} {c : UInt8} {k : Nat} (hk : l[k]? = some c) (h : ∀ j : Nat, j < k → l[j]? ≠ some c) : Lib.indexByte l c = k := by
  have hge := Lib.indexByte_ge l c
  by_cases e : Lib.indexByte l c = -1
  · exact absurd hk (Lib.indexByte_none e k)
  · obtain ⟨o, ho⟩ := Int.eq_ofNat_of_zero_le (show 0 ≤ Lib.indexByte l c by omega)
    obtain ⟨h1, h2⟩ := Lib.indexByte_some ho
    rw [ho]
    congr 1
    rcases Nat.lt_trichotomy o k with hlt | rfl | hgt
    · exact absurd h1 (h o hlt)
    · rfl
    · exact absurd hk (h2 k hgt)
theorem index_lt {l : List UInt8} {c : UInt8} (h : 0 ≤ Lib.indexByte l c) : Lib.indexByte l c < l.length := by
  obtain ⟨o, ho⟩ := Int.eq_ofNat_of_zero_le h
  have := (List.getElem?_eq_some_iff.1 (Lib.indexByte_some ho).1).1
  omega

theorem Index_spec (l : List UInt8) (c : UInt8) (w : World) : Calls Tryz.prog 68 #[vs l, vs [c]] w (Ret fun r w' => r = vi (Lib.indexByte l c) ∧ w = w') := by
  refine (Tryz.stringslite_Index_one ⟨l.toArray⟩ c w).mono ?_
  rintro e w' ⟨rfl, rfl⟩
  exact ⟨_, rfl, rfl, rfl⟩

/-- The three answers of Cut. -/
def cutZ (l : List UInt8) : Value := if 0 ≤ Lib.indexByte l 0 then .tuple #[vs (l.take (Lib.indexByte l 0).toNat), vs (l.drop ((Lib.indexByte l 0).toNat + 1)), .bool true] else .tuple #[vs l, vs [], .bool false]
theorem CutL_spec {l : List UInt8} {w : World} (hl : l.length ≤ 9223372036854775807) : Calls Tryz.prog 51 #[vs l, vs [0]] w (Ret fun r w' => r = cutZ l ∧ New w w') := by
  refine calls_of_Wc (n := 23) Tryz.func51 rfl rfl rfl ?_
  (repeat' (first | refine Wl.moveE (by conv => { lhs; whnf }) ?_ | refine Wl.assignE (by conv => { lhs; whnf }) ?_ | refine Wl.nil ?_ | refine Qseq.normal ?_ | refine Wc.seq ?_ | refine Wc.region ?_))
  refine Wl.call (Index_spec l 0 w) rfl ?_
  rintro _ _ ⟨rfl, rfl⟩
  (repeat' (first | refine Wl.moveE (by conv => { lhs; whnf }) ?_ | refine Wl.assignE (by conv => { lhs; whnf }) ?_ | refine Wl.nil ?_ | refine Qseq.normal ?_ | refine Wc.seq ?_ | refine Wc.region ?_ | refine Wc.skip ?_ | refine Wc.ret ?_ | refine Wc.condT rfl ?_ | refine Wc.condF rfl ?_ | refine Wl.geq rfl rfl (fun _ => ?_) (fun _ => ?_)))
  · have hi : 0 ≤ Lib.indexByte l 0 := by assumption
    have hlt := index_lt hi
    refine Wc.regionN rfl (by kernel_rfl) ?_
    (repeat' (refine Wq.moveE (by conv => { lhs; whnf }) ?_))
    refine Wq.strTo rfl rfl hi (by omega) ?_
    (repeat' (first | refine Wq.moveE (by conv => { lhs; whnf }) ?_ | refine Wq.lenStr rfl ?_))
    have h1 : (([0] : List UInt8).length : Int) = 1 := rfl
    refine Wq.add rfl rfl (by omega) (by omega) ?_
    refine Wq.strFrom rfl rfl (by omega) (by omega) ?_
    (repeat' (first | refine Wq.assignE (by conv => { lhs; whnf }) ?_ | refine Wq.nil ?_))
    intro w' hn
    (repeat' (first | refine Qseq.normal ?_ | refine Wc.ret ?_ | refine Qseq.ret ?_))
    refine Qfn.ret3 rfl rfl rfl rfl ⟨_, rfl, ?_, hn⟩
    show Value.tuple #[vs (l.take (Lib.indexByte l 0).toNat), vs (l.drop (Lib.indexByte l 0 + (([0] : List UInt8).length : Int)).toNat), .bool true] = cutZ l
    have : (Lib.indexByte l 0 + (([0] : List UInt8).length : Int)).toNat = (Lib.indexByte l 0).toNat + 1 := by omega
    unfold cutZ
    rw [if_pos hi, this]
  · refine Qfn.ret3 rfl rfl rfl rfl ⟨_, rfl, ?_, Chg.refl _ _⟩
    unfold cutZ
    rw [if_neg (by omega)]; rfl
theorem Cut_spec {l : List UInt8} {w : World} (hl : l.length ≤ 9223372036854775807) : Calls Tryz.prog 28 #[vs l, vs [0]] w (Ret fun r w' => r = cutZ l ∧ New w w') := by
  refine calls_of_Wc (n := 13) Tryz.func28 rfl rfl rfl ?_
  (repeat' (first | refine Wl.moveE (by conv => { lhs; whnf }) ?_ | refine Wl.assignE (by conv => { lhs; whnf }) ?_ | refine Wl.nil ?_ | refine Qseq.normal ?_ | refine Wc.seq ?_ | refine Wc.region ?_))
  refine Wl.call (CutL_spec hl) rfl ?_
  rintro _ w1 ⟨rfl, n1⟩
  unfold cutZ
  split
  · (repeat' (first | refine Wl.assignE (by conv => { lhs; whnf }) ?_ | refine Wl.nil ?_ | refine Wl.extract rfl rfl ?_ | refine Qseq.normal ?_ | refine Wc.ret ?_))
    exact Qfn.ret3 rfl rfl rfl rfl ⟨_, rfl, rfl, n1⟩
  · (repeat' (first | refine Wl.assignE (by conv => { lhs; whnf }) ?_ | refine Wl.nil ?_ | refine Wl.extract rfl rfl ?_ | refine Qseq.normal ?_ | refine Wc.ret ?_))
    exact Qfn.ret3 rfl rfl rfl rfl ⟨_, rfl, rfl, n1⟩

theorem Text_spec {w : World} {b : Nat} {l : List UInt8} (h : Bk w b 57 [vs l]) (hl : l.length ≤ 9223372036854775807) :
    Calls Tryz.prog 10 #[.pointer (some ⟨b, 0, none⟩)] w (Ret fun r w' => r = .tuple #[vs (text l).1, vi (text l).2.1] ∧ Bk w' b 57 [vs (text l).2.2] ∧ Chg (fun k => k = b) w w') := by
  refine calls_of_Wc (n := 25) Tryz.func10 rfl rfl rfl ?_
  (repeat' (first | refine Wl.moveE (by conv => { lhs; whnf }) ?_ | refine Wl.assignE (by conv => { lhs; whnf }) ?_ | refine Wl.nil ?_ | refine Qseq.normal ?_ | refine Wc.seq ?_ | refine Wc.region ?_))
  refine Wl.peqNil rfl rfl ?_
  (repeat' (first | refine Wl.moveE (by conv => { lhs; whnf }) ?_ | refine Wl.nil ?_ | refine Qseq.normal ?_ | refine Wc.seq ?_ | refine Wc.region ?_ | refine Wc.skip ?_ | refine Wc.condF rfl ?_ | refine Wl.nilP rfl ?_ | refine Wl.fieldAddr rfl rfl ?_))
  refine Wl.load1 rfl (h.cell (o := 0) rfl) ?_
  refine Wl.call (Cut_spec hl) rfl ?_
  rintro _ w1 ⟨rfl, n1⟩
  have h1 := h.chg n1 id
  have c1 : Chg (fun k => k = b) w w1 := n1.mono fun _ _ e => e.elim
  unfold cutZ text
  split
  · (repeat' (first | refine Wl.moveE (by conv => { lhs; whnf }) ?_ | refine Wl.assignE (by conv => { lhs; whnf }) ?_ | refine Wl.nil ?_ | refine Wl.extract rfl rfl ?_ | refine Wl.notB rfl ?_ | refine Qseq.normal ?_ | refine Wc.seq ?_ | refine Wc.region ?_ | refine Wc.skip ?_ | refine Wc.condF rfl ?_ | refine Wl.nilP rfl ?_ | refine Wl.fieldAddr rfl rfl ?_))
    refine Wl.store1 h1 rfl (by simp) rfl rfl fun w2 h2 c2 => ?_
    (repeat' (first | refine Wl.moveE (by conv => { lhs; whnf }) ?_ | refine Wl.assignE (by conv => { lhs; whnf }) ?_ | refine Wl.nil ?_ | refine Qseq.normal ?_ | refine Wc.seq ?_ | refine Wc.region ?_ | refine Wc.ret ?_))
    exact Qfn.ret2 rfl rfl rfl ⟨_, rfl, rfl, h2, c1.trans c2 (fun _ _ e => e)⟩
  · (repeat' (first | refine Wl.moveE (by conv => { lhs; whnf }) ?_ | refine Wl.assignE (by conv => { lhs; whnf }) ?_ | refine Wl.nil ?_ | refine Wl.extract rfl rfl ?_ | refine Wl.notB rfl ?_ | refine Qseq.normal ?_ | refine Wc.seq ?_ | refine Wc.region ?_ | refine Wc.ret ?_ | refine Qseq.ret ?_ | refine Wc.condT rfl ?_))
    exact Qfn.ret2 rfl rfl rfl ⟨_, rfl, rfl, h1, c1⟩

end Go.Proofs.YthppadlcejpgbaaGreatDoor

namespace Go.Proofs.YthppadlcejpgbaaGreatDoor
open Go Wk

theorem number_be (k : Nat) (n : Nat) : number (be k (n : Int)) = n % 256 ^ k := by
  induction k with
  | zero => simp [be, number]; omega
  | succ k ih =>
    rw [be, number_cons, be_length, ih]
    have e : (byteAt k (n : Int)).toNat = n / 256 ^ k % 256 := by
      unfold byteAt
      have h1 : ((n : Int) / 256 ^ k % 256).toNat = n / 256 ^ k % 256 := by
        rw [show ((256 : Int) ^ k) = ((256 ^ k : Nat) : Int) by simp]
        rfl
      rw [h1, UInt8.toNat_ofNat']
      omega
    rw [e, Nat.pow_succ, Nat.mod_mul, Nat.mul_comm (256 ^ k), Nat.add_comm]
theorem number_inj : ∀ {a b : List UInt8}, a.length = b.length → number a = number b → a = b
  | [], [], _, _ => rfl
  | [], _ :: _, h, _ => by simp at h
  | _ :: _, [], h, _ => by simp at h
  | c :: a, d :: b, h, e => by
    have hl : a.length = b.length := by simpa using h
    rw [number_cons, number_cons, hl] at e
    have ha := number_lt a
    have hb := number_lt b
    rw [hl] at ha
    have hp : 0 < 256 ^ b.length := Nat.pow_pos (by omega)
    have h1 : c.toNat = d.toNat := by
      have e1 : (c.toNat * 256 ^ b.length + number a) / 256 ^ b.length = c.toNat := by rw [Nat.add_comm, Nat.add_mul_div_right _ _ hp, Nat.div_eq_of_lt ha, Nat.zero_add]
      have e2 : (d.toNat * 256 ^ b.length + number b) / 256 ^ b.length = d.toNat := by rw [Nat.add_comm, Nat.add_mul_div_right _ _ hp, Nat.div_eq_of_lt hb, Nat.zero_add]
      rw [← e1, e, e2]
    rw [h1] at e
    rw [UInt8.toNat_inj.1 h1, number_inj hl (by omega)]
theorem be_number {l : List UInt8} {k : Nat} (h : l.length = k) : be k (number l : Int) = l := by
  subst h
  refine number_inj (be_length _ _) ?_
  rw [number_be, Nat.mod_eq_of_lt (number_lt l)]
theorem flatK_len {α : Type} {f : α → List UInt8} {k : Nat} (hf : ∀ x, (f x).length = k) : ∀ xs : List α, (xs.flatMap f).length = k * xs.length
  | [] => rfl
  | x :: xs => by rw [List.flatMap_cons, List.length_append, hf, flatK_len hf xs, List.length_cons, Nat.mul_add]; omega
theorem flat_chunk {α : Type} {f : α → List UInt8} {k : Nat} (hf : ∀ x, (f x).length = k) : ∀ {xs : List α} {i : Nat} {x : α}, xs[i]? = some x → ((xs.flatMap f).drop (k * i)).take k = f x
  | [], _, _, h => by simp at h
  | y :: ys, 0, x, h => by
    simp at h; subst h
    rw [List.flatMap_cons, Nat.mul_zero, List.drop_zero]
    exact List.take_left' (hf y)
  | y :: ys, i + 1, x, h => by
    rw [List.getElem?_cons_succ] at h
    rw [List.flatMap_cons, show k * (i + 1) = (f y).length + k * i by rw [hf, Nat.mul_add]; omega, ← List.drop_drop, List.drop_left]
    exact flat_chunk hf h
theorem pieces_be {k : Nat} (hk : 0 < k) {xs : List Int} (hb : ∀ x ∈ xs, 0 ≤ x ∧ x < ((256 ^ k : Nat) : Int)) : pieces k (xs.flatMap (be k)) = xs := by
  have hl := flatK_len (f := be k) (be_length k) xs
  have hlk : (xs.flatMap (be k)).length / k = xs.length := by rw [hl, Nat.mul_div_cancel_left _ hk]
  apply List.ext_getElem?
  intro i
  by_cases hi : i < xs.length
  · obtain ⟨x, hx⟩ := get_lt' xs hi
    rw [pieces_get (by rw [hlk]; exact hi), flat_chunk (be_length k) hx, hx]
    obtain ⟨h0, h1⟩ := hb x (List.mem_of_getElem? hx)
    obtain ⟨n, rfl⟩ := Int.eq_ofNat_of_zero_le h0
    rw [number_be, Nat.mod_eq_of_lt (by omega)]
  · rw [List.getElem?_eq_none (by rw [pieces_length, hlk]; omega), List.getElem?_eq_none (by omega)]
theorem nums_be {k : Nat} (hk : 0 < k) {xs : List Int} (hb : ∀ x ∈ xs, 0 ≤ x ∧ x < ((256 ^ k : Nat) : Int)) : form k (xs.flatMap (be k)) = 0 ∧ nums k (xs.flatMap (be k)) = xs := by
  have hl := flatK_len (f := be k) (be_length k) xs
  obtain ⟨h1, h2⟩ := form_ok (k := k) (l := xs.flatMap (be k)) (by rw [hl]; exact Nat.mul_mod_right _ _)
  exact ⟨h1, by rw [h2]; exact pieces_be hk hb⟩
theorem fm_congr {α β : Type} {f g : α → List β} : ∀ {l : List α}, (∀ x ∈ l, f x = g x) → l.flatMap f = l.flatMap g
  | [], _ => rfl
  | x :: l, h => by rw [List.flatMap_cons, List.flatMap_cons, h x (by simp), fm_congr fun y hy => h y (by simp [hy])]
theorem chunks {k : Nat} (v : List UInt8) : ∀ m, (List.range m).flatMap (fun i => (v.drop (k * i)).take k) = v.take (k * m)
  | 0 => by simp
  | m + 1 => by
    rw [List.range_succ, List.flatMap_append, chunks v m, List.flatMap_singleton, Nat.mul_add, Nat.mul_one, List.take_add]
theorem be_pieces {k : Nat} (hk : 0 < k) {v : List UInt8} (h : v.length % k = 0) : (pieces k v).flatMap (be k) = v := by
  have e : v.length = k * (v.length / k) := by have := Nat.div_add_mod v.length k; omega
  unfold pieces
  rw [List.flatMap_map]
  have h1 : (List.range (v.length / k)).flatMap (fun i => be k ((number ((v.drop (k * i)).take k) : Nat) : Int)) = (List.range (v.length / k)).flatMap (fun i => (v.drop (k * i)).take k) := by
    refine fm_congr fun i hi => ?_
    rw [List.mem_range] at hi
    refine be_number ?_
    rw [List.length_take, List.length_drop]
    have : k * (i + 1) ≤ k * (v.length / k) := Nat.mul_le_mul_left _ hi
    rw [Nat.mul_add] at this
    omega
  rw [h1, chunks, ← e, List.take_length]
/-! Texts. -/
theorem cutS_ind {p : List UInt8 → Prop} (h0 : p []) (h1 : ∀ l c, p l → p (l ++ [c])) (l : List UInt8) : p l := by
  have : ∀ n (l : List UInt8), l.length = n → p l := by
    intro n
    induction n with
    | zero => intro l h; rw [List.eq_nil_of_length_eq_zero h]; exact h0
    | succ n ih =>
      intro l h
      have hne : l ≠ [] := fun e => by rw [e] at h; cases h
      rw [← List.dropLast_concat_getLast hne]
      exact h1 _ _ (ih _ (by simp [h]))
  exact this _ l rfl
theorem cutS_join (l : List UInt8) : (cutS l).1.flatMap (· ++ [0]) ++ (cutS l).2 = l := by
  induction l using cutS_ind with
  | h0 => rfl
  | h1 l c ih =>
    rw [cutS_snoc]
    unfold stp
    split
    · rename_i e
      subst e
      simp only [List.flatMap_append, List.flatMap_singleton, List.append_nil]
      rw [← List.append_assoc, ih]
    · simp only
      rw [← List.append_assoc, ih]
theorem cutS_none (l : List UInt8) : (∀ t ∈ (cutS l).1, (0 : UInt8) ∉ t) ∧ (0 : UInt8) ∉ (cutS l).2 := by
  induction l using cutS_ind with
  | h0 => exact ⟨fun t ht => by simp [cutS] at ht, by simp [cutS]⟩
  | h1 l c ih =>
    rw [cutS_snoc]
    unfold stp
    split
    · refine ⟨fun t ht => ?_, by simp⟩
      rcases List.mem_append.1 ht with ht | ht
      · exact ih.1 t ht
      · rw [List.mem_singleton] at ht; rw [ht]; exact ih.2
    · rename_i e
      refine ⟨ih.1, fun h => ?_⟩
      rcases List.mem_append.1 h with h | h
      · exact ih.2 h
      · rw [List.mem_singleton] at h; exact e h.symm
theorem cutS_end (l : List UInt8) : (cutS l).2 = [] ↔ l = [] ∨ l.getLast? = some 0 := by
  induction l using cutS_ind with
  | h0 => simp [cutS]
  | h1 l c _ =>
    rw [cutS_snoc]
    unfold stp
    split
    · rename_i e; subst e; simp
    · rename_i e; simp [e]
theorem cutS_of {xs : List (List UInt8)} (h : ∀ t ∈ xs, (0 : UInt8) ∉ t) : cutS (xs.flatMap (· ++ [0])) = (xs, []) := by
  induction xs with
  | nil => rfl
  | cons t xs ih =>
    rw [List.flatMap_cons, List.append_assoc, List.singleton_append, cutS_zero (fun c hc e => h t (by simp) (e ▸ hc)), ih fun u hu => h u (by simp [hu])]
theorem any_zero {xs : List (List UInt8)} : xs.any (fun t => t.contains 0) = false ↔ ∀ t ∈ xs, (0 : UInt8) ∉ t := by
  rw [List.any_eq_false]
  exact forall_congr' fun t => imp_congr_right fun _ => by simp
/-- Texts told are read back. -/
theorem txts_of {xs : List (List UInt8)} (h : (ofTexts xs).2 = 0) : tform (ofTexts xs).1 = 0 ∧ txts (ofTexts xs).1 = xs := by
  unfold ofTexts at h ⊢
  split at h
  · cases h
  · rename_i hn
    rw [if_neg hn]
    have h0 := any_zero.1 (by simpa using hn)
    have hc := cutS_of h0
    have he := (cutS_end (xs.flatMap (· ++ [0]))).1 (by rw [hc])
    obtain ⟨h1, h2⟩ := t_ok he
    exact ⟨h1, by rw [h2, hc]⟩
/-- Texts read are told as they were. -/
theorem of_txts {v : List UInt8} (h : tform v = 0) : ofTexts (txts v) = (v, 0) := by
  have he : v = [] ∨ v.getLast? = some 0 := by
    unfold tform at h
    split at h
    · assumption
    · cases h
  obtain ⟨_, h2⟩ := t_ok he
  rw [h2]
  unfold ofTexts
  rw [if_neg (by rw [any_zero.2 (cutS_none v).1]; simp)]
  have := cutS_join v
  rw [(cutS_end v).2 he, List.append_nil] at this
  rw [this]
/-- The next text of a value's rest. -/
theorem text_cut {R t : List UInt8} {ts : List (List UInt8)} (h : (cutS R).1 = t :: ts) : ∃ R', text R = (t, 0, R') ∧ (cutS R').1 = ts ∧ (cutS R').2 = (cutS R).2 ∧ R'.length ≤ R.length := by
  have hge := Lib.indexByte_ge R 0
  by_cases e : Lib.indexByte R 0 = -1
  · have hn := Lib.indexByte_none e
    have := cutS_free (l := R) fun c hc e0 => by
      obtain ⟨k, hk⟩ := List.mem_iff_getElem?.1 hc
      exact hn k (e0 ▸ hk)
    rw [this] at h; cases h
  · obtain ⟨o, ho⟩ := Int.eq_ofNat_of_zero_le (show 0 ≤ Lib.indexByte R 0 by omega)
    obtain ⟨h1, h2⟩ := Lib.indexByte_some ho
    obtain ⟨h3, h4⟩ := List.getElem?_eq_some_iff.1 h1
    have hR : R = R.take o ++ 0 :: R.drop (o + 1) := by
      conv => lhs; rw [← List.take_append_drop o R]
      rw [List.drop_eq_getElem_cons h3, h4]
    have hz : ∀ c ∈ R.take o, c ≠ 0 := fun c hc e0 => by
      obtain ⟨j, hj⟩ := List.mem_iff_getElem?.1 hc
      rw [List.getElem?_take] at hj
      split at hj
      · rename_i hjo
        exact h2 j hjo (e0 ▸ hj)
      · cases hj
    have hc : cutS R = (R.take o :: (cutS (R.drop (o + 1))).1, (cutS (R.drop (o + 1))).2) := by
      conv => lhs; rw [hR]
      exact cutS_zero hz _
    rw [hc] at h
    simp only [List.cons.injEq] at h
    refine ⟨R.drop (o + 1), ?_, h.2, by rw [hc], by rw [List.length_drop]; omega⟩
    unfold text
    rw [if_pos (by omega), ho, Int.toNat_natCast, h.1]
theorem text_nil : text [] = ([], 4, []) := by decide
end Go.Proofs.YthppadlcejpgbaaGreatDoor

namespace Go.Proofs.YthppadlcejpgbaaGreatDoor
open Go Wk
open Go.RowKit (Below)
attribute [local irreducible] Go.Calls

/-- The only one of a list that was read well, or the refusal. -/
def only {α : Type} (z : α) (e : Int) (xs : List α) : α × Int := if e = 0 ∧ xs.length = 1 then (xs.headD z, 0) else (z, 4)

end Go.Proofs.YthppadlcejpgbaaGreatDoor

namespace Go.Proofs.YthppadlcejpgbaaGreatDoor
open Go Wk
open Go.RowKit (Below)
attribute [local irreducible] Go.Calls

def okC (c : UInt8) : Bool := decide (32 ≤ c.toNat ∧ c.toNat ≤ 126)
def okT (t : List UInt8) : Bool := !t.isEmpty && t.all okC
def plainB (e : Int) (xs : List (List UInt8)) : Bool := decide (e = 0) && (!xs.isEmpty && xs.all okT)
theorem all_take {α : Type} {p : α → Bool} {xs : List α} {i : Nat} {x : α} (h : xs[i]? = some x) (hi : (xs.take i).all p = true) (hx : p x = true) : (xs.take (i + 1)).all p = true := by
  rw [List.take_add_one, h, List.all_append, hi]; simp [hx]
theorem all_bad {α : Type} {p : α → Bool} {xs : List α} {i : Nat} {x : α} (h : xs[i]? = some x) (hx : p x = false) : xs.all p = false := by
  rw [List.all_eq_false]
  exact ⟨x, List.mem_of_getElem? h, by simp [hx]⟩
theorem okT_empty : okT [] = false := rfl
theorem okT_bad {t : List UInt8} {k : Nat} {c : UInt8} (h : t[k]? = some c) (hc : okC c = false) : okT t = false := by
  unfold okT; rw [all_bad h hc]; simp
theorem okC_low {c : UInt8} (h : (c.toNat : Int) < 32) : okC c = false := decide_eq_false (by omega)
theorem okC_high {c : UInt8} (h : (126 : Int) < c.toNat) : okC c = false := decide_eq_false (by omega)
theorem okC_in {c : UInt8} (h : ¬ (c.toNat : Int) < 32) (h' : ¬ (126 : Int) < c.toNat) : okC c = true := decide_eq_true (by omega)

theorem cutS_le {l : List UInt8} : ∀ t ∈ (cutS l).1, t.length ≤ l.length := by
  have : ∀ k, k ≤ l.length → ∀ t ∈ (cutS (l.take k)).1, t.length ≤ k := by
    intro k
    induction k with
    | zero => intro _ t ht; simp [cutS] at ht
    | succ k ih =>
      intro hk t ht
      obtain ⟨c, hc⟩ := getC l (k := k) (by omega)
      have h1 := cutS_len (l.take k)
      have h2 : (l.take k).length ≤ k := by simp only [List.length_take]; omega
      rw [cutS_take hc] at ht
      unfold stp at ht
      split at ht
      · rcases List.mem_append.1 ht with ht | ht
        · have := ih (by omega) t ht; omega
        · rw [List.mem_singleton.1 ht]; omega
      · have := ih (by omega) t ht; omega
  have h := this l.length (Nat.le_refl _)
  rwa [List.take_length] at h
theorem txts_le {l : List UInt8} : ∀ t ∈ txts l, t.length ≤ l.length := by
  intro t ht
  unfold txts at ht
  split at ht
  · exact cutS_le t ht
  · cases ht

theorem plain_spec {w : World} {l : List UInt8} (hl : l.length ≤ 100000000) :
    Calls Tryz.prog 62 #[vs l] w (Ret fun r w' => r = .bool (plainB (tform l) (txts l)) ∧ New w w') := by
  refine calls_of_Wc (n := 55) Tryz.func62 rfl rfl rfl ?_
  (repeat' (first | refine Wl.moveE (by conv => { lhs; whnf }) ?_ | refine Wl.assignE (by conv => { lhs; whnf }) ?_ | refine Wl.nil ?_ | refine Qseq.normal ?_ | refine Wc.seq ?_ | refine Wc.region ?_))
  refine Wl.call (refTexts_spec hl) rfl ?_
  rintro _ w1 ⟨v, rfl, ho, hn⟩
  have hr := ho.rd goodStr.mo
  have hxl : ∀ t ∈ txts l, t.length ≤ 100000000 := fun t ht => Nat.le_trans (txts_le t ht) hl
  generalize txts l = xs at hr hxl ⊢
  clear ho
  obtain ⟨a, cap, rfl, hcap, hmax⟩ := hr.form
  simp only [maxLen] at hmax
  unfold plainB
  (repeat' (first | refine Wl.moveE (by conv => { lhs; whnf }) ?_ | refine Wl.assignE (by conv => { lhs; whnf }) ?_ | refine Wl.nil ?_ | refine Wl.extract rfl rfl ?_ | refine Wl.guardY rfl rfl ?_ | refine Wl.guardN rfl rfl ?_ | refine Wl.pickTE rfl (by conv => { lhs; whnf }) ?_ | refine Wl.pickFE rfl (by conv => { lhs; whnf }) ?_ | refine Wl.lenS rfl ?_ | refine Qseq.normal ?_ | refine Wc.seq ?_ | refine Wc.region ?_ | refine Wc.block ?_ | refine Wc.skip ?_ | refine Wc.ret ?_ | refine Qseq.ret ?_ | refine Wc.condT rfl ?_ | refine Wc.condF rfl ?_ | refine Wl.eql rfl rfl (fun _ => ?_) (fun _ => ?_) | refine Wl.neq rfl rfl (fun _ => ?_) (fun _ => ?_)))
  · rw [decide_eq_false (by assumption)]
    exact Qfn.ret1 rfl rfl ⟨_, rfl, rfl, hn⟩
  · have : xs = [] := List.eq_nil_of_length_eq_zero (by omega)
    subst this
    rw [List.isEmpty_nil, Bool.not_true, Bool.false_and, Bool.and_false]
    exact Qfn.ret1 rfl rfl ⟨_, rfl, rfl, hn⟩
  · have hne : xs.isEmpty = false := by cases xs with | nil => simp at * | cons => rfl
    rw [decide_eq_true (by assumption), hne]
    refine Wc.loop (σ := Nat) (fun i => [(3, .slice a xs.length cap), (5, vi i)]) (fun i w' => i ≤ xs.length ∧ (xs.take i).all okT = true ∧ w1 = w') (fun i => xs.length - i) 0 ⟨rfl, rfl, trivial⟩ ⟨Nat.zero_le _, rfl, rfl⟩ ?_
    rintro i G _ ⟨hi, hall, rfl⟩
    simp only [upds]
    (repeat' (first | refine Wl.moveE (by conv => { lhs; whnf }) ?_ | refine Wl.assignE (by conv => { lhs; whnf }) ?_ | refine Wl.nil ?_ | refine Wl.lenS rfl ?_ | refine Qseq.normal ?_ | refine Wc.seq ?_ | refine Wc.region ?_ | refine Wc.block ?_ | refine Wc.skip ?_ | refine Wc.exit ?_ | refine Wc.ret ?_ | refine Qseq.exit ?_ | refine Qblk.hit ?_ | refine Qloop.exit ?_ | refine Wc.condT rfl ?_ | refine Wc.condF rfl ?_ | refine Wl.lss rfl rfl (fun _ => ?_) (fun _ => ?_)))
    · obtain ⟨t, ht⟩ : ∃ t, xs[(i : Int).toNat]? = some t := ⟨xs[i]'(by omega), by simp⟩
      have ht' : xs[i]? = some t := ht
      have htl := hxl t (List.mem_of_getElem? ht')
      refine Wl.idxAddrV hr rfl rfl (by omega) ht fun b o hc => ?_
      refine Wl.load1 rfl hc ?_
      (repeat' (first | refine Wl.assignE (by conv => { lhs; whnf }) ?_ | refine Wl.nil ?_ | refine Qseq.normal ?_ | refine Wc.seq ?_ | refine Wc.region ?_ | refine Wc.block ?_ | refine Wc.skip ?_ | refine Wc.ret ?_ | refine Qseq.ret ?_ | refine Qblk.ret ?_ | refine Qloop.ret ?_ | refine Wc.condT rfl ?_ | refine Wc.condF rfl ?_ | refine Wl.seql rfl rfl (fun _ => ?_) (fun _ => ?_)))
      · have e : t = [] := by assumption
        subst e
        rw [all_bad ht' okT_empty]
        exact Qfn.ret1 rfl rfl ⟨_, rfl, rfl, hn⟩
      · have hte : t ≠ [] := by assumption
        refine Wc.loop (σ := Nat) (fun k => [(3, .slice a xs.length cap), (5, vi i), (6, vi k)]) (fun k w' => k ≤ t.length ∧ (t.take k).all okC = true ∧ w1 = w') (fun k => t.length - k) 0 ⟨rfl, rfl, rfl, trivial⟩ ⟨Nat.zero_le _, rfl, rfl⟩ ?_
        rintro k G2 _ ⟨hk, hallk, rfl⟩
        simp only [upds]
        (repeat' (first | refine Wl.moveE (by conv => { lhs; whnf }) ?_ | refine Wc.seq ?_ | refine Wc.region ?_))
        refine Wl.idxAddrV hr rfl rfl (by omega) ht fun b o hc => ?_
        refine Wl.load1 rfl hc ?_
        (repeat' (first | refine Wl.moveE (by conv => { lhs; whnf }) ?_ | refine Wl.assignE (by conv => { lhs; whnf }) ?_ | refine Wl.nil ?_ | refine Wl.lenStr rfl ?_ | refine Qseq.normal ?_ | refine Wc.seq ?_ | refine Wc.region ?_ | refine Wc.block ?_ | refine Wc.skip ?_ | refine Wc.exit ?_ | refine Qseq.exit ?_ | refine Qblk.normal ?_ | refine Qblk.hit ?_ | refine Qloop.exit ?_ | refine Wc.condT rfl ?_ | refine Wc.condF rfl ?_ | refine Wl.add rfl rfl (by omega) (by omega) ?_ | refine Wl.lss rfl rfl (fun _ => ?_) (fun _ => ?_)))
        · obtain ⟨c, hcc⟩ := getC t (k := k) (by omega)
          refine Wl.idxAddrV hr rfl rfl (by omega) ht fun b o hc => ?_
          refine Wl.load1 rfl hc ?_
          (repeat' (refine Wl.moveE (by conv => { lhs; whnf }) ?_))
          refine Wl.idxStr (b := c) rfl rfl (by omega) hcc ?_
          (repeat' (first | refine Wl.moveE (by conv => { lhs; whnf }) ?_ | refine Wl.assignE (by conv => { lhs; whnf }) ?_ | refine Wl.nil ?_ | refine Wl.guardY rfl rfl ?_ | refine Wl.guardN rfl rfl ?_ | refine Wl.pickTE rfl (by conv => { lhs; whnf }) ?_ | refine Qseq.normal ?_ | refine Wc.seq ?_ | refine Wc.region ?_ | refine Wc.ret ?_ | refine Qseq.ret ?_ | refine Qblk.ret ?_ | refine Qloop.ret ?_ | refine Wc.condT rfl ?_ | refine Wl.lss rfl rfl (fun _ => ?_) (fun _ => ?_)))
          · rw [all_bad ht' (okT_bad hcc (okC_low (by assumption)))]
            exact Qfn.ret1 rfl rfl ⟨_, rfl, rfl, hn⟩
          · refine Wl.idxAddrV hr rfl rfl (by omega) ht fun b o hc => ?_
            refine Wl.guardY rfl rfl ?_
            refine Wl.load1 rfl hc ?_
            (repeat' (first | refine Wl.moveE (by conv => { lhs; whnf }) ?_ | refine Wl.guardY rfl rfl ?_))
            refine Wl.idxStr (b := c) rfl rfl (by omega) hcc ?_
            (repeat' (first | refine Wl.moveE (by conv => { lhs; whnf }) ?_ | refine Wl.assignE (by conv => { lhs; whnf }) ?_ | refine Wl.nil ?_ | refine Wl.guardY rfl rfl ?_ | refine Wl.pickFE rfl (by conv => { lhs; whnf }) ?_ | refine Qseq.normal ?_ | refine Wc.seq ?_ | refine Wc.region ?_ | refine Wc.skip ?_ | refine Wc.ret ?_ | refine Qseq.ret ?_ | refine Qblk.normal ?_ | refine Qblk.ret ?_ | refine Qloop.ret ?_ | refine Wc.condT rfl ?_ | refine Wc.condF rfl ?_ | refine Wl.add rfl rfl (by omega) (by omega) ?_ | refine Wl.gtr rfl rfl (fun _ => ?_) (fun _ => ?_)))
            · rw [all_bad ht' (okT_bad hcc (okC_high (by omega)))]
              exact Qfn.ret1 rfl rfl ⟨_, rfl, rfl, hn⟩
            · refine Qloop.normal (k + 1) ⟨rfl, rfl, rfl, trivial⟩ ⟨by omega, all_take hcc hallk (okC_in (by omega) (by omega)), rfl⟩ (by omega)
        · have e : k = t.length := by omega
          subst e
          rw [List.take_length] at hallk
          refine Qloop.normal (i + 1) ⟨rfl, rfl, trivial⟩ ⟨by omega, all_take ht' hall ?_, rfl⟩ (by omega)
          unfold okT
          rw [hallk]; cases t with | nil => exact absurd rfl hte | cons => rfl
    · have e : i = xs.length := by omega
      subst e
      rw [List.take_length] at hall
      rw [hall]
      exact Qfn.ret1 rfl rfl ⟨_, rfl, rfl, hn⟩

/-- What Look hands back. -/
def look (l : List UInt8) : Int := if l = [] then 0 else if plainB (tform l) (txts l) = true then 1 else if l.length % 4 = 0 then 2 else 3
theorem refLook_spec {w : World} {l : List UInt8} (hl : l.length ≤ 100000000) :
    Calls Tryz.prog 38 #[vs l] w (Ret fun r w' => r = .int .u8 (look l) ∧ New w w') := by
  have e4 : (l.length : Int).tmod 4 = ((l.length % 4 : Nat) : Int) := rfl
  refine calls_of_Wc (n := 14) Tryz.func38 rfl rfl rfl ?_
  unfold look
  (repeat' (first | refine Wl.moveE (by conv => { lhs; whnf }) ?_ | refine Wl.assignE (by conv => { lhs; whnf }) ?_ | refine Wl.nil ?_ | refine Qseq.normal ?_ | refine Wc.seq ?_ | refine Wc.region ?_ | refine Wc.block ?_ | refine Wc.ret ?_ | refine Qseq.ret ?_ | refine Qblk.ret ?_ | refine Wc.condT rfl ?_ | refine Wc.condF rfl ?_ | refine Wl.seql rfl rfl (fun _ => ?_) (fun _ => ?_)))
  · rw [if_pos (by assumption)]
    exact Qfn.ret1 rfl rfl ⟨_, rfl, rfl, Chg.refl _ _⟩
  · rw [if_neg (by assumption)]
    refine Wl.call (plain_spec hl) rfl ?_
    rintro _ w1 ⟨rfl, hn⟩
    rcases plainB (tform l) (txts l) with _ | _
    · rw [if_neg (by simp)]
      (repeat' (first | refine Wl.moveE (by conv => { lhs; whnf }) ?_ | refine Wl.assignE (by conv => { lhs; whnf }) ?_ | refine Wl.nil ?_ | refine Wl.lenStr rfl ?_ | refine Qseq.normal ?_ | refine Wc.seq ?_ | refine Wc.region ?_ | refine Wc.condF rfl ?_))
      refine Wl.remW rfl rfl (by omega) ?_
      rw [e4]
      (repeat' (first | refine Wl.assignE (by conv => { lhs; whnf }) ?_ | refine Wl.nil ?_ | refine Qseq.normal ?_ | refine Wc.seq ?_ | refine Wc.region ?_ | refine Wc.skip ?_ | refine Wc.ret ?_ | refine Qseq.ret ?_ | refine Qblk.normal ?_ | refine Qblk.ret ?_ | refine Wc.condT rfl ?_ | refine Wc.condF rfl ?_ | refine Wl.eql rfl rfl (fun _ => ?_) (fun _ => ?_)))
      · rw [if_pos (by omega)]
        exact Qfn.ret1 rfl rfl ⟨_, rfl, rfl, hn⟩
      · rw [if_neg (by omega)]
        exact Qfn.ret1 rfl rfl ⟨_, rfl, rfl, hn⟩
    · rw [if_pos rfl]
      (repeat' (first | refine Wl.assignE (by conv => { lhs; whnf }) ?_ | refine Wl.nil ?_ | refine Qseq.normal ?_ | refine Wc.seq ?_ | refine Wc.region ?_ | refine Wc.ret ?_ | refine Qseq.ret ?_ | refine Qblk.ret ?_ | refine Wc.condT rfl ?_))
      exact Qfn.ret1 rfl rfl ⟨_, rfl, rfl, hn⟩

theorem txts_pos {l : List UInt8} (hne : l ≠ []) (h : tform l = 0) : (txts l).isEmpty = false := by
  have hz : l.getLast? = some 0 := by
    by_cases hz : l.getLast? = some 0
    · exact hz
    · rw [(t_bad (fun h2 => h2.elim hne hz)).1] at h; cases h
  rw [(t_ok (.inr hz)).2, body_zero hz, cutS_snoc]
  simp [stp]
theorem cLook_spec {w : World} {l : List UInt8} (hl : l.length ≤ 100000000) :
    Calls Tryz.prog 29 #[vs l] w (Ret fun r w' => r = .int .u8 (look l) ∧ New w w') := by
  have e4 : (l.length : Int).tmod 4 = ((l.length % 4 : Nat) : Int) := rfl
  refine calls_of_Wc (n := 55) Tryz.func29 rfl rfl rfl ?_
  unfold look
  (repeat' (first | refine Wl.moveE (by conv => { lhs; whnf }) ?_ | refine Wl.assignE (by conv => { lhs; whnf }) ?_ | refine Wl.nil ?_ | refine Qseq.normal ?_ | refine Wc.seq ?_ | refine Wc.region ?_ | refine Wc.skip ?_ | refine Wc.ret ?_ | refine Qseq.ret ?_ | refine Wc.condT rfl ?_ | refine Wc.condF rfl ?_ | refine Wl.seql rfl rfl (fun _ => ?_) (fun _ => ?_)))
  · rw [if_pos (by assumption)]
    exact Qfn.ret1 rfl rfl ⟨_, rfl, rfl, Chg.refl _ _⟩
  · have hne : l ≠ [] := by assumption
    rw [if_neg hne]
    refine Wl.call (cTexts_spec hl) rfl ?_
    rintro _ w1 ⟨v, rfl, ho, hn⟩
    have hr := ho.rd goodStr.mo
    clear ho
    have hpos := txts_pos hne
    unfold plainB
    have hnil : ¬ tform l = 0 → txts l = [] := fun h => by
      by_cases h2 : l = [] ∨ l.getLast? = some 0
      · exact absurd (t_ok h2).1 h
      · exact (t_bad h2).2
    have hxl : ∀ t ∈ txts l, t.length ≤ 100000000 := fun t ht => Nat.le_trans (txts_le t ht) hl
    generalize txts l = xs at hr hpos hxl hnil ⊢
    obtain ⟨a, cap, rfl, hcap, hmax⟩ := hr.form
    simp only [maxLen] at hmax
    (repeat' (first | refine Wl.moveE (by conv => { lhs; whnf }) ?_ | refine Wl.assignE (by conv => { lhs; whnf }) ?_ | refine Wl.nil ?_ | refine Wl.extract rfl rfl ?_ | refine Wl.lenS rfl ?_ | refine Qseq.normal ?_ | refine Wc.seq ?_ | refine Wc.region ?_ | refine Wc.block ?_ | refine Wl.eql rfl rfl (fun _ => ?_) (fun _ => ?_)))
    · have h0 : tform l = 0 := by assumption
      rw [decide_eq_true h0, hpos h0, Bool.true_and, Bool.not_false, Bool.true_and]
      refine Wc.loop (σ := Nat) (fun i => [(0, vs l), (5, .bool ((xs.take i).all okT)), (19, .slice a xs.length cap), (20, vi xs.length), (21, vi i)]) (fun i w' => i ≤ xs.length ∧ New w1 w') (fun i => xs.length - i) 0 ⟨rfl, rfl, rfl, rfl, rfl, trivial⟩ ⟨Nat.zero_le _, Chg.refl _ _⟩ ?_
      rintro i G w2 ⟨hi, hn2⟩
      simp only [upds]
      (repeat' (first | refine Wl.moveE (by conv => { lhs; whnf }) ?_ | refine Wl.assignE (by conv => { lhs; whnf }) ?_ | refine Wl.nil ?_ | refine Qseq.normal ?_ | refine Wc.seq ?_ | refine Wc.region ?_ | refine Wc.block ?_ | refine Wc.skip ?_ | refine Wc.exit ?_ | refine Qseq.exit ?_ | refine Qblk.hit ?_ | refine Qloop.exit ?_ | refine Wc.condT rfl ?_ | refine Wc.condF rfl ?_ | refine Wl.lss rfl rfl (fun _ => ?_) (fun _ => ?_)))
      · obtain ⟨t, ht⟩ : ∃ t, xs[(i : Int).toNat]? = some t := ⟨xs[i]'(by omega), by simp⟩
        have ht' : xs[i]? = some t := ht
        have htl := hxl t (List.mem_of_getElem? ht')
        have e0 : (xs.take (i + 1)).all okT = ((xs.take i).all okT && okT t) := by
          rw [List.take_add_one, ht', List.all_append]; simp
        refine Wl.idxAddrV (RdS.keep (stable_one _) (New.keep hn2) hr) rfl rfl (by omega) ht fun b o hc => ?_
        refine Wl.load1 rfl hc ?_
        rcases hB : (xs.take i).all okT with _ | _
        · (repeat' (first | refine Wl.moveE (by conv => { lhs; whnf }) ?_ | refine Wl.assignE (by conv => { lhs; whnf }) ?_ | refine Wl.nil ?_ | refine Wl.guardN rfl rfl ?_ | refine Wl.pickFE rfl (by conv => { lhs; whnf }) ?_ | refine Qseq.normal ?_ | refine Wc.seq ?_ | refine Wc.region ?_))
          refine Wl.strBytes (l := t) rfl (by simp only [maxLen]; omega) fun w3 cap3 C fr hC htk hCs n3 s3 hr3 => ?_
          (repeat' (first | refine Wl.moveE (by conv => { lhs; whnf }) ?_ | refine Wl.nil ?_ | refine Wl.lenS rfl ?_ | refine Qseq.normal ?_ | refine Wc.block ?_))
          refine Wc.loop (σ := Nat) (fun k => [(0, vs l), (5, .bool (false && (t.take k).all okC)), (19, .slice a xs.length cap), (20, vi xs.length), (21, vi i), (31, .slice (some ⟨w2.heap.size, 0, none⟩) t.length cap3), (32, vi t.length), (33, vi k)]) (fun k w' => k ≤ t.length ∧ w3 = w') (fun k => t.length - k) 0
            ⟨rfl, rfl, rfl, rfl, rfl, rfl, rfl, rfl, trivial⟩ ⟨Nat.zero_le _, rfl⟩ ?_
          rintro k G2 _ ⟨hk, rfl⟩
          simp only [upds]
          (repeat' (first | refine Wl.moveE (by conv => { lhs; whnf }) ?_ | refine Wl.nil ?_ | refine Qseq.normal ?_ | refine Wc.seq ?_ | refine Wc.region ?_ | refine Wc.block ?_ | refine Wc.skip ?_ | refine Wc.exit ?_ | refine Qseq.exit ?_ | refine Qblk.normal ?_ | refine Qblk.hit ?_ | refine Qloop.exit ?_ | refine Wc.condT rfl ?_ | refine Wc.condF rfl ?_ | refine Wl.add rfl rfl (by omega) (by omega) ?_ | refine Wl.lss rfl rfl (fun _ => ?_) (fun _ => ?_)))
          · obtain ⟨c, hcc⟩ := getC t (k := k) (by omega)
            have e1 : (false && (t.take (k + 1)).all okC) = ((false && (t.take k).all okC) && okC c) := by
              rw [List.take_add_one, hcc, List.all_append, Bool.and_assoc]; simp
            refine Wl.idxAddrV hr3 rfl rfl (by omega) hcc fun b o hc => ?_
            refine Wl.load1 rfl hc ?_
            rcases hK : (false && (t.take k).all okC) with _ | _
            · (repeat' (first | refine Wl.moveE (by conv => { lhs; whnf }) ?_ | refine Wl.assignE (by conv => { lhs; whnf }) ?_ | refine Wl.nil ?_ | refine Wl.guardN rfl rfl ?_ | refine Wl.pickFE rfl (by conv => { lhs; whnf }) ?_ | refine Qseq.normal ?_ | refine Wc.region ?_ | refine Qblk.normal ?_ | refine Wl.add rfl rfl (by omega) (by omega) ?_))
              refine Qloop.normal (k + 1) ⟨rfl, ?_, rfl, rfl, rfl, rfl, rfl, rfl, trivial⟩ ⟨by omega, rfl⟩ (by omega)
              show Value.bool _ = Value.bool _
              rw [e1, hK]; rfl
            · simp at hK
          · have e : k = t.length := by omega
            subst e
            refine Qloop.normal (i + 1) ⟨rfl, ?_, rfl, rfl, rfl, trivial⟩ ⟨by omega, New.trans hn2 n3⟩ (by omega)
            show Value.bool _ = Value.bool _
            rw [e0, hB, List.take_length]
            all_goals rfl
        · (repeat' (first | refine Wl.moveE (by conv => { lhs; whnf }) ?_ | refine Wl.assignE (by conv => { lhs; whnf }) ?_ | refine Wl.nil ?_ | refine Wl.guardY rfl rfl ?_ | refine Wl.pickTE rfl (by conv => { lhs; whnf }) ?_ | refine Qseq.normal ?_ | refine Wc.seq ?_ | refine Wc.region ?_ | refine Wl.sneq rfl rfl (fun _ => ?_) (fun _ => ?_)))
          · have hte : t ≠ [] := by assumption
            refine Wl.strBytes (l := t) rfl (by simp only [maxLen]; omega) fun w3 cap3 C fr hC htk hCs n3 s3 hr3 => ?_
            (repeat' (first | refine Wl.moveE (by conv => { lhs; whnf }) ?_ | refine Wl.nil ?_ | refine Wl.lenS rfl ?_ | refine Qseq.normal ?_ | refine Wc.block ?_))
            refine Wc.loop (σ := Nat) (fun k => [(0, vs l), (5, .bool (true && (t.take k).all okC)), (19, .slice a xs.length cap), (20, vi xs.length), (21, vi i), (31, .slice (some ⟨w2.heap.size, 0, none⟩) t.length cap3), (32, vi t.length), (33, vi k)]) (fun k w' => k ≤ t.length ∧ w3 = w') (fun k => t.length - k) 0
              ⟨rfl, rfl, rfl, rfl, rfl, rfl, rfl, rfl, trivial⟩ ⟨Nat.zero_le _, rfl⟩ ?_
            rintro k G2 _ ⟨hk, rfl⟩
            simp only [upds]
            (repeat' (first | refine Wl.moveE (by conv => { lhs; whnf }) ?_ | refine Wl.nil ?_ | refine Qseq.normal ?_ | refine Wc.seq ?_ | refine Wc.region ?_ | refine Wc.block ?_ | refine Wc.skip ?_ | refine Wc.exit ?_ | refine Qseq.exit ?_ | refine Qblk.normal ?_ | refine Qblk.hit ?_ | refine Qloop.exit ?_ | refine Wc.condT rfl ?_ | refine Wc.condF rfl ?_ | refine Wl.add rfl rfl (by omega) (by omega) ?_ | refine Wl.lss rfl rfl (fun _ => ?_) (fun _ => ?_)))
            · obtain ⟨c, hcc⟩ := getC t (k := k) (by omega)
              have e1 : (true && (t.take (k + 1)).all okC) = ((true && (t.take k).all okC) && okC c) := by
                rw [List.take_add_one, hcc, List.all_append, Bool.and_assoc]; simp
              refine Wl.idxAddrV hr3 rfl rfl (by omega) hcc fun b o hc => ?_
              refine Wl.load1 rfl hc ?_
              rcases hK : (true && (t.take k).all okC) with _ | _
              · (repeat' (first | refine Wl.moveE (by conv => { lhs; whnf }) ?_ | refine Wl.assignE (by conv => { lhs; whnf }) ?_ | refine Wl.nil ?_ | refine Wl.guardN rfl rfl ?_ | refine Wl.pickFE rfl (by conv => { lhs; whnf }) ?_ | refine Qseq.normal ?_ | refine Wc.region ?_ | refine Qblk.normal ?_ | refine Wl.add rfl rfl (by omega) (by omega) ?_))
                refine Qloop.normal (k + 1) ⟨rfl, ?_, rfl, rfl, rfl, rfl, rfl, rfl, trivial⟩ ⟨by omega, rfl⟩ (by omega)
                show Value.bool _ = Value.bool _
                rw [e1, hK]; rfl
              · (repeat' (first | refine Wl.moveE (by conv => { lhs; whnf }) ?_ | refine Wl.assignE (by conv => { lhs; whnf }) ?_ | refine Wl.nil ?_ | refine Wl.guardY rfl rfl ?_ | refine Wl.guardN rfl rfl ?_ | refine Wl.pickTE rfl (by conv => { lhs; whnf }) ?_ | refine Wl.pickFE rfl (by conv => { lhs; whnf }) ?_ | refine Qseq.normal ?_ | refine Wc.region ?_ | refine Qblk.normal ?_ | refine Wl.add rfl rfl (by omega) (by omega) ?_ | refine Wl.leq rfl rfl (fun _ => ?_) (fun _ => ?_) | refine Wl.geq rfl rfl (fun _ => ?_) (fun _ => ?_)))
                · refine Qloop.normal (k + 1) ⟨rfl, ?_, rfl, rfl, rfl, rfl, rfl, rfl, trivial⟩ ⟨by omega, rfl⟩ (by omega)
                  show Value.bool _ = Value.bool _
                  rw [e1, hK, okC_in (by omega) (by omega)]; rfl
                · refine Qloop.normal (k + 1) ⟨rfl, ?_, rfl, rfl, rfl, rfl, rfl, rfl, trivial⟩ ⟨by omega, rfl⟩ (by omega)
                  show Value.bool _ = Value.bool _
                  rw [e1, hK, okC_high (by omega)]; rfl
                · refine Qloop.normal (k + 1) ⟨rfl, ?_, rfl, rfl, rfl, rfl, rfl, rfl, trivial⟩ ⟨by omega, rfl⟩ (by omega)
                  show Value.bool _ = Value.bool _
                  rw [e1, hK, okC_low (by omega)]; rfl
            · have e : k = t.length := by omega
              subst e
              refine Qloop.normal (i + 1) ⟨rfl, ?_, rfl, rfl, rfl, trivial⟩ ⟨by omega, New.trans hn2 n3⟩ (by omega)
              show Value.bool _ = Value.bool _
              rw [e0, hB, List.take_length]
              unfold okT; cases t with | nil => exact absurd rfl hte | cons => rfl
          · have hte : t = [] := by assumption
            refine Wl.strBytes (l := t) rfl (by simp only [maxLen]; omega) fun w3 cap3 C fr hC htk hCs n3 s3 hr3 => ?_
            (repeat' (first | refine Wl.moveE (by conv => { lhs; whnf }) ?_ | refine Wl.nil ?_ | refine Wl.lenS rfl ?_ | refine Qseq.normal ?_ | refine Wc.block ?_))
            refine Wc.loop (σ := Nat) (fun k => [(0, vs l), (5, .bool (false && (t.take k).all okC)), (19, .slice a xs.length cap), (20, vi xs.length), (21, vi i), (31, .slice (some ⟨w2.heap.size, 0, none⟩) t.length cap3), (32, vi t.length), (33, vi k)]) (fun k w' => k ≤ t.length ∧ w3 = w') (fun k => t.length - k) 0
              ⟨rfl, rfl, rfl, rfl, rfl, rfl, rfl, rfl, trivial⟩ ⟨Nat.zero_le _, rfl⟩ ?_
            rintro k G2 _ ⟨hk, rfl⟩
            simp only [upds]
            (repeat' (first | refine Wl.moveE (by conv => { lhs; whnf }) ?_ | refine Wl.nil ?_ | refine Qseq.normal ?_ | refine Wc.seq ?_ | refine Wc.region ?_ | refine Wc.block ?_ | refine Wc.skip ?_ | refine Wc.exit ?_ | refine Qseq.exit ?_ | refine Qblk.normal ?_ | refine Qblk.hit ?_ | refine Qloop.exit ?_ | refine Wc.condT rfl ?_ | refine Wc.condF rfl ?_ | refine Wl.add rfl rfl (by omega) (by omega) ?_ | refine Wl.lss rfl rfl (fun _ => ?_) (fun _ => ?_)))
            · obtain ⟨c, hcc⟩ := getC t (k := k) (by omega)
              have e1 : (false && (t.take (k + 1)).all okC) = ((false && (t.take k).all okC) && okC c) := by
                rw [List.take_add_one, hcc, List.all_append, Bool.and_assoc]; simp
              refine Wl.idxAddrV hr3 rfl rfl (by omega) hcc fun b o hc => ?_
              refine Wl.load1 rfl hc ?_
              rcases hK : (false && (t.take k).all okC) with _ | _
              · (repeat' (first | refine Wl.moveE (by conv => { lhs; whnf }) ?_ | refine Wl.assignE (by conv => { lhs; whnf }) ?_ | refine Wl.nil ?_ | refine Wl.guardN rfl rfl ?_ | refine Wl.pickFE rfl (by conv => { lhs; whnf }) ?_ | refine Qseq.normal ?_ | refine Wc.region ?_ | refine Qblk.normal ?_ | refine Wl.add rfl rfl (by omega) (by omega) ?_))
                refine Qloop.normal (k + 1) ⟨rfl, ?_, rfl, rfl, rfl, rfl, rfl, rfl, trivial⟩ ⟨by omega, rfl⟩ (by omega)
                show Value.bool _ = Value.bool _
                rw [e1, hK]; rfl
              · simp at hK
            · have e : k = t.length := by omega
              subst e
              refine Qloop.normal (i + 1) ⟨rfl, ?_, rfl, rfl, rfl, trivial⟩ ⟨by omega, New.trans hn2 n3⟩ (by omega)
              show Value.bool _ = Value.bool _
              rw [e0, hB, List.take_length]
              all_goals (rw [hte]; rfl)
      · have e : i = xs.length := by omega
        subst e
        rcases hA : (xs.take xs.length).all okT with _ | _
        · have hA' := hA
          rw [List.take_length] at hA'
          rw [hA', if_neg (by simp)]
          (repeat' (first | refine Wl.moveE (by conv => { lhs; whnf }) ?_ | refine Wl.lenStr rfl ?_ | refine Wc.seq ?_ | refine Wc.region ?_ | refine Wc.condF rfl ?_))
          refine Wl.remW rfl rfl (by omega) ?_
          rw [e4]
          (repeat' (first | refine Wl.assignE (by conv => { lhs; whnf }) ?_ | refine Wl.nil ?_ | refine Qseq.normal ?_ | refine Wc.seq ?_ | refine Wc.region ?_ | refine Wc.skip ?_ | refine Wc.ret ?_ | refine Qseq.ret ?_ | refine Qblk.normal ?_ | refine Qblk.ret ?_ | refine Wc.condT rfl ?_ | refine Wc.condF rfl ?_ | refine Wl.eql rfl rfl (fun _ => ?_) (fun _ => ?_)))
          · rw [if_pos (by omega)]
            exact Qfn.ret1 rfl rfl ⟨_, rfl, rfl, New.trans hn hn2⟩
          · rw [if_neg (by omega)]
            exact Qfn.ret1 rfl rfl ⟨_, rfl, rfl, New.trans hn hn2⟩
        · have hA' := hA
          rw [List.take_length] at hA'
          rw [hA', if_pos rfl]
          (repeat' (first | refine Wl.assignE (by conv => { lhs; whnf }) ?_ | refine Wl.nil ?_ | refine Qseq.normal ?_ | refine Wc.seq ?_ | refine Wc.region ?_ | refine Wc.ret ?_ | refine Qseq.ret ?_ | refine Qblk.ret ?_ | refine Wc.condT rfl ?_))
          exact Qfn.ret1 rfl rfl ⟨_, rfl, rfl, New.trans hn hn2⟩
    · have h0 : ¬ tform l = 0 := by assumption
      have hx := hnil h0
      subst hx
      rw [decide_eq_false h0, Bool.false_and, if_neg (by simp)]
      refine Wc.loop (σ := Nat) (fun _ => [(0, vs l), (5, .bool false), (20, vi 0), (21, vi 0)]) (fun _ w' => w1 = w') (fun _ => 0) 0 ⟨rfl, rfl, rfl, rfl, trivial⟩ rfl ?_
      rintro _ G _ rfl
      simp only [upds]
      (repeat' (first | refine Wl.moveE (by conv => { lhs; whnf }) ?_ | refine Wl.assignE (by conv => { lhs; whnf }) ?_ | refine Wl.nil ?_ | refine Wl.lenStr rfl ?_ | refine Qseq.normal ?_ | refine Wc.seq ?_ | refine Wc.region ?_ | refine Wc.block ?_ | refine Wc.exit ?_ | refine Qseq.exit ?_ | refine Qblk.hit ?_ | refine Qloop.exit ?_ | refine Wc.condF rfl ?_ | (refine Wl.lss rfl rfl (fun _ => ?_) (fun _ => ?_) <;> (first | (exfalso; omega) | skip))))
      refine Wl.remW rfl rfl (by omega) ?_
      rw [e4]
      (repeat' (first | refine Wl.assignE (by conv => { lhs; whnf }) ?_ | refine Wl.nil ?_ | refine Qseq.normal ?_ | refine Wc.seq ?_ | refine Wc.region ?_ | refine Wc.skip ?_ | refine Wc.ret ?_ | refine Qseq.ret ?_ | refine Qblk.normal ?_ | refine Qblk.ret ?_ | refine Wc.condT rfl ?_ | refine Wc.condF rfl ?_ | refine Wl.eql rfl rfl (fun _ => ?_) (fun _ => ?_)))
      · rw [if_pos (by omega)]
        exact Qfn.ret1 rfl rfl ⟨_, rfl, rfl, hn⟩
      · rw [if_neg (by omega)]
        exact Qfn.ret1 rfl rfl ⟨_, rfl, rfl, hn⟩
end Go.Proofs.YthppadlcejpgbaaGreatDoor

namespace Go.Proofs.YthppadlcejpgbaaGreatDoor.Wk
open Go Go.RowKit

section
variable {P : Program} {n : Nat} {ds : List Deferred} {Q : Po} {F : Fr} {w : World} {ops rest : List Oper} {d : Nat} {ty : TypeId} {pos : String} {aft : Array Edge}
theorem run_idxArrP {t e m bytes b : Nat} {agg : Bool} {z : Value} {k : IntKind} {j : Int} (ht : P.underlying t = some (.array m e)) (he : ElT P e 1 bytes agg z) (h0 : 0 ≤ j) (h1 : j < m) :
    (Instr.indexAt t (.pointer (some ⟨b, 0, none⟩)) (.int k j)).run P w = .ok (.pointer (some ⟨b, j.toNat, none⟩)) w := by
  simp [Instr.indexAt, asIntOf, run_underlying ht, h0, h1, he.sizeOf, Instr.sureAddr, addr_add]
/-- h[j] of an array's variable: its place. -/
theorem Wl.idxArrP {x i : Operand} {t e m bytes b : Nat} {agg : Bool} {z : Value} {k : IntKind} {j : Int} [ht : Und P t (.array m e)] [he : ElT P e 1 bytes agg z] (hx : ev n F x = .pointer (some ⟨b, 0, none⟩)) (hi : ev n F i = .int k j) (h0 : 0 ≤ j) (h1 : j < m)
    (c : Wl P n ds Q ops rest (upd F d (.pointer (some ⟨b, j.toNat, none⟩))) w) : Wl P n ds Q ops (⟨some d, .indexAddr t x i, ty, pos, aft, none⟩ :: rest) F w :=
  Wl.val (by simp only [execOp, hx, hi, Sem.run_bind, run_idxArrP ht.h he h0 h1, Result.andThen_ok, Sem.run_pure]) c
/-- a[i:] of an array's variable. -/
theorem Wl.sliceArr {x i : Operand} {t e m bytes b : Nat} {agg : Bool} {z : Value} {k : IntKind} {j : Nat} [ht : Und P t (.array m e)] [he : ElT P e 1 bytes agg z] (hx : ev n F x = .pointer (some ⟨b, 0, none⟩)) (hi : ev n F i = .int k j) (h1 : j < m)
    (c : Wl P n ds Q ops rest (upd F d (.slice (some ⟨b, j, none⟩) (m - j) (m - j))) w) : Wl P n ds Q ops (⟨some d, .slice t x (some i) none none, ty, pos, aft, none⟩ :: rest) F w := by
  refine Wl.val ?_ c
  have hr : (Instr.sliceAt t (.pointer (some ⟨b, 0, none⟩)) (some (.int k j)) none none).run P w = .ok (.slice (some ⟨b, j, none⟩) (m - j) (m - j)) w := by
    have h2 : ¬ m = j := by omega
    have h3 : j ≤ m := by omega
    simp [Instr.sliceAt, run_underlying ht.h, Instr.sliceBounds, Instr.sliceBound, asIntOf, he.sizeOf, Instr.sureAddr, addr_add, h2, h3]
  simp only [execOp, hx, hi, Option.map_some, Option.map_none, Sem.run_bind, hr, Result.andThen_ok, Sem.run_pure]
theorem run_andM {k : IntKind} (hk : k.signed = false) (a m : Nat) (ha : a < 2 ^ k.bits) (hm : m ≤ k.bits) : Op.intBits .and k (a : Int) ((2 ^ m - 1 : Nat) : Int) = pure (.int k ((a % 2 ^ m : Nat) : Int)) := by
  have hp : 2 ^ m ≤ 2 ^ k.bits := Nat.pow_le_pow_right (by omega) hm
  have hp0 : 0 < 2 ^ m := Nat.pow_pos (by omega)
  have h1 : (BitVec.ofInt k.bits (a : Int) &&& BitVec.ofInt k.bits ((2 ^ m - 1 : Nat) : Int)).toNat = a % 2 ^ m := by
    rw [BitVec.toNat_and, BitVec.toNat_ofInt, BitVec.toNat_ofInt]
    have e1 : ((a : Int) % ((2 ^ k.bits : Nat) : Int)).toNat = a := by
      rw [Int.emod_eq_of_lt (by omega) (by omega)]; omega
    have e2 : (((2 ^ m - 1 : Nat) : Int) % ((2 ^ k.bits : Nat) : Int)).toNat = 2 ^ m - 1 := by
      rw [Int.emod_eq_of_lt (by omega) (by omega)]; omega
    rw [e1, e2, Nat.and_two_pow_sub_one_eq_mod]
  simp only [Op.intBits, h1]
  have h2 := Nat.mod_le a (2 ^ m)
  rw [wrap_u hk (by omega) (by have : ((a % 2 ^ m : Nat) : Int) < ((2 ^ k.bits : Nat) : Int) := by omega
                               simpa using this)]
/-- x & (2^m - 1). -/
theorem Wl.andM {x y : Operand} {t t' : TypeId} {k : IntKind} {A B : Int} (a m : Nat) (hk : k.signed = false) (hA : A = (a : Int)) (hB : B = ((2 ^ m - 1 : Nat) : Int)) (ha : a < 2 ^ k.bits) (hm : m ≤ k.bits) (hx : ev n F x = .int k A) (hy : ev n F y = .int k B)
    (c : Wl P n ds Q ops rest (upd F d (.int k ((a % 2 ^ m : Nat) : Int))) w) : Wl P n ds Q ops (⟨some d, .binOp .and t x y t', ty, pos, aft, none⟩ :: rest) F w := by
  subst hA
  subst hB
  refine Wl.val ?_ c
  simp only [execOp, hx, hy, Sem.run_bind, run_eqGuard_int, Result.andThen_ok]
  have : binOp .and t (.int k (a : Int)) (.int k ((2 ^ m - 1 : Nat) : Int)) = Op.intBits .and k (a : Int) ((2 ^ m - 1 : Nat) : Int) := by simp [binOp]
  rw [this, run_andM hk a m ha hm]; rfl
/-- x & y, both written out. -/
theorem Wl.andC {x y : Operand} {t t' : TypeId} {k : IntKind} {a b r : Int} (hr : Op.intBits .and k a b = pure (.int k r)) (hx : ev n F x = .int k a) (hy : ev n F y = .int k b)
    (c : Wl P n ds Q ops rest (upd F d (.int k r)) w) : Wl P n ds Q ops (⟨some d, .binOp .and t x y t', ty, pos, aft, none⟩ :: rest) F w := by
  refine Wl.val ?_ c
  simp only [execOp, hx, hy, Sem.run_bind, run_eqGuard_int, Result.andThen_ok]
  have : binOp .and t (.int k a) (.int k b) = Op.intBits .and k a b := by simp [binOp]
  rw [this, hr]; rfl
/-- x | y, both written out. -/
theorem Wl.orC {x y : Operand} {t t' : TypeId} {k : IntKind} {a b r : Int} (hr : Op.intBits .or k a b = pure (.int k r)) (hx : ev n F x = .int k a) (hy : ev n F y = .int k b)
    (c : Wl P n ds Q ops rest (upd F d (.int k r)) w) : Wl P n ds Q ops (⟨some d, .binOp .or t x y t', ty, pos, aft, none⟩ :: rest) F w := by
  refine Wl.val ?_ c
  simp only [execOp, hx, hy, Sem.run_bind, run_eqGuard_int, Result.andThen_ok]
  have : binOp .or t (.int k a) (.int k b) = Op.intBits .or k a b := by simp [binOp]
  rw [this, hr]; rfl
theorem Wl.negW {x : Operand} {t : TypeId} {k : IntKind} {a : Int} (hx : ev n F x = .int k a) (c : Wl P n ds Q ops rest (upd F d (.int k (k.wrap (-a)))) w) : Wl P n ds Q ops (⟨some d, .unOp .neg t x, ty, pos, aft, none⟩ :: rest) F w :=
  Wl.val (by simp [execOp, hx, Op.unary, Op.intArith]) c
end
end Go.Proofs.YthppadlcejpgbaaGreatDoor.Wk

namespace Go.Proofs.YthppadlcejpgbaaGreatDoor
open Go Wk
open Go.RowKit (Below)
attribute [local irreducible] Go.Calls

/-- The table that the walk reads. -/
def DeB (w : World) : Prop := w.cell? ⟨5, 15, none⟩ = some (.int .u8 4) ∧ 5 < w.heap.size
theorem DeB.new {w w' : World} (h : DeB w) (n : New w w') : DeB w' := by
  refine ⟨?_, Nat.lt_of_lt_of_le h.2 n.size⟩
  have := n.block _ h.2 id
  have h1 := h.1
  simp only [World.cell?] at h1 ⊢
  rw [this]; exact h1
theorem TZ64_spec {w : World} (h : DeB w) : Calls Tryz.prog 119 #[.int .u64 16] w (Ret fun r w' => r = vi 4 ∧ w = w') := by
  refine calls_of_Wc Tryz.func119 rfl Tryz.ntmps119 rfl ?_
  (repeat' (first | refine Wl.moveE (by conv => { lhs; whnf }) ?_ | refine Wl.assignE (by conv => { lhs; whnf }) ?_ | refine Wl.nil ?_ | refine Qseq.normal ?_ | refine Wc.seq ?_ | refine Wc.region ?_ | refine Wc.skip ?_ | refine Wc.condF rfl ?_ | (refine Wl.eql rfl rfl (fun _ => ?_) (fun _ => ?_) <;> (first | (exfalso; omega) | skip))))
  refine Wl.negW rfl ?_
  refine Wl.andC (r := 16) (by kernel_rfl) rfl rfl ?_
  refine Wl.mulW rfl rfl ?_
  refine Wl.shrW rfl rfl (by omega) ?_
  rw [show (IntKind.u64.wrap (16 * 285870213051353865)).fdiv (2 ^ (min (58 : Int).toNat IntKind.u64.bits)) = 15 by decide]
  refine Wl.idxArrP rfl rfl (by omega) (by omega) ?_
  refine Wl.load1 rfl h.1 ?_
  (repeat' (first | refine Wl.assignE (by conv => { lhs; whnf }) ?_ | refine Wl.nil ?_ | refine Qseq.normal ?_ | refine Wc.ret ?_ | refine Wl.convI rfl ?_))
  exact Qfn.ret1 rfl rfl ⟨_, rfl, rfl, rfl⟩
theorem TZ_spec {w : World} (h : DeB w) : Calls Tryz.prog 101 #[.int .u64 16] w (Ret fun r w' => r = vi 4 ∧ w = w') := by
  refine calls_of_Wc Tryz.func101 rfl Tryz.ntmps101 rfl ?_
  (repeat' (first | refine Wl.moveE (by conv => { lhs; whnf }) ?_ | refine Wl.assignE (by conv => { lhs; whnf }) ?_ | refine Wl.nil ?_ | refine Qseq.normal ?_ | refine Wc.seq ?_ | refine Wc.region ?_ | refine Wc.skip ?_ | refine Wc.condF rfl ?_))
  refine Wl.call (TZ64_spec h) rfl ?_
  rintro _ _ ⟨rfl, rfl⟩
  (repeat' (first | refine Wl.assignE (by conv => { lhs; whnf }) ?_ | refine Wl.nil ?_ | refine Qseq.normal ?_ | refine Wc.ret ?_))
  exact Qfn.ret1 rfl rfl ⟨_, rfl, rfl, rfl⟩
theorem pow2_spec {w : World} : Calls Tryz.prog 100 #[vi 16] w (Ret fun r w' => r = .bool true ∧ w = w') := by
  refine calls_of_Wc Tryz.func100 rfl Tryz.ntmps100 rfl ?_
  (repeat' (first | refine Wl.moveE (by conv => { lhs; whnf }) ?_ | refine Wl.assignE (by conv => { lhs; whnf }) ?_ | refine Wl.nil ?_ | refine Qseq.normal ?_ | refine Wc.seq ?_ | refine Wc.region ?_ | refine Wl.sub rfl rfl (by omega) (by omega) ?_))
  refine Wl.andC (r := 0) (by kernel_rfl) rfl rfl ?_
  (repeat' (first | refine Wl.assignE (by conv => { lhs; whnf }) ?_ | refine Wl.nil ?_ | refine Qseq.normal ?_ | refine Wc.ret ?_ | (refine Wl.eql rfl rfl (fun _ => ?_) (fun _ => ?_) <;> (first | (exfalso; omega) | skip))))
  exact Qfn.ret1 rfl rfl ⟨_, rfl, rfl, rfl⟩
/-- A digit, and a number to the base 16. -/
def dg (k : Nat) : UInt8 := ([48, 49, 50, 51, 52, 53, 54, 55, 56, 57, 97, 98, 99, 100, 101, 102] : List UInt8).getD k 0
def hexF : Nat → Nat → List UInt8
  | 0, n => [dg n]
  | f + 1, n => if n < 16 then [dg n] else hexF f (n / 16) ++ [dg (n % 16)]
def hexD (n : Nat) : List UInt8 := hexF 15 n
theorem hexF_len : ∀ (f n : Nat), (hexF f n).length ≤ f + 1
  | 0, n => by simp [hexF]
  | f + 1, n => by
    have := hexF_len f (n / 16)
    unfold hexF
    split
    · simp
    · rw [List.length_append, List.length_singleton]; omega
theorem arr_set {k : Nat} {a v : Value} {l : List Value} : (List.replicate (k + 1) a ++ l).set k v = List.replicate k a ++ v :: l := by
  rw [List.replicate_succ', List.append_assoc, List.set_append_right _ _ (by simp), List.length_replicate, Nat.sub_self]
  rfl
theorem dg_at : ∀ k : Nat, k < 16 → ([48, 49, 50, 51, 52, 53, 54, 55, 56, 57, 97, 98, 99, 100, 101, 102, 103, 104, 105, 106, 107, 108, 109, 110, 111, 112, 113, 114, 115, 116, 117, 118, 119, 120, 121, 122] : List UInt8)[k]? = some (dg k) := by decide
theorem arr_rd {w : World} {b : Nat} {T : TypeId} {j : Nat} {z : Value} {xs : List UInt8} (h : Bk w b T (List.replicate j z ++ xs.map by8)) (hx : xs.length ≤ 1000) : RdS (one by8) 1 (fun _ => True) w (.slice (some ⟨b, j, none⟩) xs.length xs.length) xs := by
  refine .inr (.inr ⟨b, j, xs.length, _, _, _, rfl, trivial, h, Nat.le_refl _, by simp only [maxLen]; omega, by simp, fun i x hxi => ?_⟩)
  have hi := (List.getElem?_eq_some_iff.1 hxi).1
  show (List.drop (j + i * 1) (List.replicate j z ++ xs.map by8)).take 1 = [by8 x]
  rw [Nat.mul_one, ← List.drop_drop, List.drop_left' List.length_replicate, List.drop_eq_getElem_cons (by simpa using hi)]
  have := (List.getElem?_eq_some_iff.1 hxi).2
  simp [this]
set_option maxRecDepth 4000 in
set_option maxHeartbeats 1000000 in
theorem formatBits_spec {w : World} {n : Nat} (h : DeB w) (hn : n < 18446744073709551616) :
    Calls Tryz.prog 76 #[.slice none 0 0, .int .u64 n, vi 16, .bool false, .bool false] w (Ret fun r w' => r = .tuple #[.slice none 0 0, vs (hexD n)] ∧ New w w') := by
  refine calls_of_Wc Tryz.func76 rfl Tryz.ntmps76 rfl ?_
  (repeat' (first | refine Wl.moveE (by conv => { lhs; whnf }) ?_ | refine Wl.assignE (by conv => { lhs; whnf }) ?_ | refine Wl.nil ?_ | refine Wl.guardY rfl rfl ?_ | refine Wl.pickFE rfl (by conv => { lhs; whnf }) ?_ | refine Qseq.normal ?_ | refine Wc.seq ?_ | refine Wc.region ?_ | refine Wc.skip ?_ | refine Wc.condF rfl ?_ | (refine Wl.lss rfl rfl (fun _ => ?_) (fun _ => ?_) <;> (first | (exfalso; omega) | skip)) | (refine Wl.gtr rfl rfl (fun _ => ?_) (fun _ => ?_) <;> (first | (exfalso; omega) | skip)) | (refine Wl.eql rfl rfl (fun _ => ?_) (fun _ => ?_) <;> (first | (exfalso; omega) | skip))))
  refine Wl.alloc fun w1 b1 n1 s1 => ?_
  replace b1 : Bk w1 w.heap.size 143 (List.replicate 65 (.int .u8 0) ++ ([] : List UInt8).map by8) := b1
  (repeat' (first | refine Wl.moveE (by conv => { lhs; whnf }) ?_ | refine Wl.assignE (by conv => { lhs; whnf }) ?_ | refine Wl.nil ?_ | refine Qseq.normal ?_ | refine Wc.seq ?_ | refine Wc.region ?_ | refine Wc.skip ?_ | refine Wc.condF rfl ?_))
  refine Wl.call pow2_spec rfl ?_
  rintro _ _ ⟨rfl, rfl⟩
  (repeat' (first | refine Wl.moveE (by conv => { lhs; whnf }) ?_ | refine Wl.nil ?_ | refine Qseq.normal ?_ | refine Wc.seq ?_ | refine Wc.region ?_ | refine Wc.condT rfl ?_ | refine Wl.convI rfl ?_))
  refine Wl.call (TZ_spec (h.new n1)) rfl ?_
  rintro _ _ ⟨rfl, rfl⟩
  (repeat' (first | refine Wl.moveE (by conv => { lhs; whnf }) ?_ | refine Wl.assignE (by conv => { lhs; whnf }) ?_ | refine Wl.nil ?_ | refine Qseq.normal ?_ | refine Wc.seq ?_ | refine Wc.region ?_ | refine Wl.convI rfl ?_))
  refine Wl.subW rfl rfl ?_
  (repeat' (first | refine Wl.assignE (by conv => { lhs; whnf }) ?_ | refine Wl.nil ?_ | refine Qseq.normal ?_ | refine Wc.seq ?_ | refine Wc.block ?_))
  refine Wc.loop (σ := Nat × List UInt8) (fun s => [(1, .int .u64 s.1), (3, .bool false), (4, .bool false), (10, .slice none 0 0), (12, .pointer (some ⟨w.heap.size, 0, none⟩)), (13, vi (65 - s.2.length : Nat)), (14, .int .u64 4), (15, .int .u64 16), (16, .int .u64 15)])
    (fun s w' => s.2.length ≤ 15 ∧ s.1 < 16 ^ (16 - s.2.length) ∧ hexD n = hexF (15 - s.2.length) s.1 ++ s.2 ∧ Bk w' w.heap.size 143 (List.replicate (65 - s.2.length) (.int .u8 0) ++ s.2.map by8) ∧ New w w') (fun s => s.1) (n, []) ⟨rfl, rfl, rfl, rfl, rfl, rfl, rfl, rfl, rfl, trivial⟩ ⟨Nat.zero_le _, by simpa using hn, by simp [hexD], b1, n1⟩ ?_
  clear b1 n1 s1
  rintro ⟨u, ds⟩ G w1 ⟨hd, hu, hx, b1, n1⟩
  dsimp only at hd hu hx b1
  have hu64 : u < 18446744073709551616 := Nat.lt_of_lt_of_le hu (Nat.le_trans (Nat.pow_le_pow_right (by omega) (show 16 - ds.length ≤ 16 by omega)) (by decide))
  simp only [upds]
  (repeat' (first | refine Wl.moveE (by conv => { lhs; whnf }) ?_ | refine Wl.assignE (by conv => { lhs; whnf }) ?_ | refine Wl.nil ?_ | refine Qseq.normal ?_ | refine Wc.seq ?_ | refine Wc.region ?_ | refine Wc.block ?_ | refine Wc.skip ?_ | refine Wc.exit ?_ | refine Qseq.exit ?_ | refine Qblk.hit ?_ | refine Qloop.exit ?_ | refine Wc.condT rfl ?_ | refine Wc.condF rfl ?_ | refine Wl.sub rfl rfl (by omega) (by omega) ?_ | refine Wl.geq rfl rfl (fun _ => ?_) (fun _ => ?_)))
  · have hd15 : ds.length ≤ 14 := by
      rcases Nat.lt_or_ge ds.length 15 with h1 | h1
      · omega
      · have e : 16 - ds.length = 1 := by omega
        rw [e] at hu; omega
    obtain ⟨f, hf⟩ : ∃ f, 15 - ds.length = f + 1 := ⟨14 - ds.length, by omega⟩
    have hu16 : u / 16 < 16 ^ (16 - (ds.length + 1)) := by
      have e : 16 - ds.length = (16 - (ds.length + 1)) + 1 := by omega
      rw [e, Nat.pow_succ] at hu
      exact Nat.div_lt_of_lt_mul (by rw [Nat.mul_comm]; exact hu)
    have hm := Nat.mod_lt u (show 0 < 16 by omega)
    refine Wl.andM (k := .u64) u 4 rfl rfl rfl (show u < 2 ^ IntKind.u64.bits from hu64) (by decide) rfl rfl ?_
    refine Wl.idxStr rfl rfl (by omega) (by rw [Int.toNat_natCast]; exact dg_at _ hm) ?_
    refine Wl.idxArrP rfl rfl (by omega) (by omega) ?_
    rw [show (((65 - ds.length : Nat) : Int) - 1).toNat = 64 - ds.length by omega]
    refine Wl.store1 b1 rfl (show 64 - ds.length < _ by simp; omega) rfl rfl fun w2 b2 c2 => ?_
    rw [show 65 - ds.length = (64 - ds.length) + 1 by omega, arr_set] at b2
    (repeat' (first | refine Wl.moveE (by conv => { lhs; whnf }) ?_ | refine Wl.nil ?_ | refine Qseq.normal ?_ | refine Wc.region ?_))
    refine Wl.shrW rfl rfl (by omega) ?_
    rw [show (u : Int).fdiv (2 ^ (min (4 : Int).toNat IntKind.u64.bits)) = ((u / 16 : Nat) : Int) by
      rw [show (2 : Int) ^ (min (4 : Int).toNat IntKind.u64.bits) = 16 by decide, Int.fdiv_eq_ediv_of_nonneg _ (by omega)]; rfl]
    (repeat' (first | refine Wl.assignE (by conv => { lhs; whnf }) ?_ | refine Wl.nil ?_ | refine Qblk.normal ?_))
    refine Qloop.normal (u / 16, dg (u % 16) :: ds) ⟨rfl, rfl, rfl, rfl, rfl, ?_, rfl, rfl, rfl, trivial⟩ ⟨by simp; omega, hu16, ?_, ?_, Chg.trans n1 c2 fun k hk e => by omega⟩ (by dsimp only; omega)
    · show vi _ = vi _
      simp only [List.length_cons]
      congr 1; omega
    · dsimp only
      rw [hx, hf, show 15 - (dg (u % 16) :: ds).length = f by rw [List.length_cons]; omega]
      conv => lhs; unfold hexF
      rw [if_neg (by omega), List.append_assoc]; rfl
    · dsimp only
      rw [show 65 - (dg (u % 16) :: ds).length = 64 - ds.length by rw [List.length_cons]; omega]
      exact b2
  · have hu2 : u < 16 := by omega
    refine Wl.idxStr rfl rfl (by omega) (by rw [Int.toNat_natCast]; exact dg_at _ hu2) ?_
    refine Wl.idxArrP rfl rfl (by omega) (by omega) ?_
    rw [show (((65 - ds.length : Nat) : Int) - 1).toNat = 64 - ds.length by omega]
    refine Wl.store1 b1 rfl (show 64 - ds.length < _ by simp; omega) rfl rfl fun w2 b2 c2 => ?_
    rw [show 65 - ds.length = (64 - ds.length) + 1 by omega, arr_set] at b2
    have hx2 : hexD n = dg u :: ds := by
      rw [hx]
      cases 15 - ds.length with
      | zero => rfl
      | succ f => unfold hexF; rw [if_pos hu2]; rfl
    have r2 := arr_rd (xs := dg u :: ds) b2 (by simp; omega)
    rw [← hx2] at r2
    have hl : (hexD n).length = ds.length + 1 := by rw [hx2]; rfl
    (repeat' (first | refine Wl.moveE (by conv => { lhs; whnf }) ?_ | refine Wl.nil ?_ | refine Qseq.normal ?_ | refine Wc.seq ?_ | refine Wc.region ?_ | refine Wc.skip ?_ | refine Wc.condF rfl ?_))
    rw [show ((65 - ds.length : Nat) : Int) - 1 = ((64 - ds.length : Nat) : Int) by omega]
    refine Wl.sliceArr rfl rfl (by omega) ?_
    rw [show 65 - (64 - ds.length) = (hexD n).length by omega]
    refine Wl.bytesStr r2 rfl ?_
    (repeat' (first | refine Wl.assignE (by conv => { lhs; whnf }) ?_ | refine Wl.nil ?_ | refine Qseq.normal ?_ | refine Wc.ret ?_))
    exact Qfn.ret2 rfl rfl rfl ⟨_, rfl, rfl, Chg.trans n1 c2 fun k hk e => by omega⟩
theorem iFormatUint_spec {w : World} {n : Nat} (h : DeB w) (hn : n < 18446744073709551616) :
    Calls Tryz.prog 55 #[.int .u64 n, vi 16] w (Ret fun r w' => r = vs (hexD n) ∧ New w w') := by
  refine calls_of_Wc Tryz.func55 rfl Tryz.ntmps55 rfl ?_
  (repeat' (first | refine Wl.moveE (by conv => { lhs; whnf }) ?_ | refine Wl.assignE (by conv => { lhs; whnf }) ?_ | refine Wl.nil ?_ | refine Qseq.normal ?_ | refine Wc.seq ?_ | refine Wc.region ?_ | refine Wc.skip ?_ | refine Wc.condF rfl ?_ | (refine Wl.eql rfl rfl (fun _ => ?_) (fun _ => ?_) <;> (first | (exfalso; omega) | skip))))
  refine Wl.call (formatBits_spec h hn) rfl ?_
  rintro _ w1 ⟨rfl, n1⟩
  (repeat' (first | refine Wl.moveE (by conv => { lhs; whnf }) ?_ | refine Wl.assignE (by conv => { lhs; whnf }) ?_ | refine Wl.nil ?_ | refine Wl.extract rfl rfl ?_ | refine Qseq.normal ?_ | refine Wc.seq ?_ | refine Wc.region ?_ | refine Wc.ret ?_))
  exact Qfn.ret1 rfl rfl ⟨_, rfl, rfl, n1⟩
theorem FormatUint_spec {w : World} {n : Nat} (h : DeB w) (hn : n < 18446744073709551616) :
    Calls Tryz.prog 33 #[.int .u64 n, vi 16] w (Ret fun r w' => r = vs (hexD n) ∧ New w w') := by
  refine calls_of_Wc Tryz.func33 rfl Tryz.ntmps33 rfl ?_
  (repeat' (first | refine Wl.moveE (by conv => { lhs; whnf }) ?_ | refine Wl.assignE (by conv => { lhs; whnf }) ?_ | refine Wl.nil ?_ | refine Qseq.normal ?_ | refine Wc.seq ?_ | refine Wc.region ?_))
  refine Wl.call (iFormatUint_spec h hn) rfl ?_
  rintro _ w1 ⟨rfl, n1⟩
  (repeat' (first | refine Wl.assignE (by conv => { lhs; whnf }) ?_ | refine Wl.nil ?_ | refine Qseq.normal ?_ | refine Wc.ret ?_))
  exact Qfn.ret1 rfl rfl ⟨_, rfl, rfl, n1⟩
end Go.Proofs.YthppadlcejpgbaaGreatDoor

namespace Go.Proofs.YthppadlcejpgbaaGreatDoor.Wk
open Go Go.RowKit

class Ifc (P : Program) (t : TypeId) : Prop where
  h : ∃ ms, P.underlying t = some (.interface ms)
class Conc (P : Program) (t : TypeId) : Prop where
  h : P.concrete t = true
class CmpT (P : Program) (t : TypeId) : Prop where
  h : (P.info? t).map (·.comparable) = some true
theorem Ifc.at {P : Program} {t : TypeId} (h : Ifc P t) : P.underlying t = some (.interface (P.methodsAt t)) := by
  obtain ⟨ms, h⟩ := h.h
  rw [h]; simp [Program.methodsAt, h]
section
variable {P : Program} {n : Nat} {ds : List Deferred} {Q : Po} {F : Fr} {w : World} {ops rest : List Oper} {d : Nat} {ty t t' : TypeId} {pos : String} {aft : Array Edge} {x y : Operand}
theorem Wl.mkIface {v : Value} [hc : Conc P t] (hx : ev n F x = v) (k : Wl P n ds Q ops rest (upd F d (.iface t v)) w) :
    Wl P n ds Q ops (⟨some d, .makeInterface t x, ty, pos, aft, none⟩ :: rest) F w :=
  Wl.val (by simp only [execOp, hx, Sem.run_bind, run_makeInterface w t v hc.h, Result.andThen_ok, Sem.run_pure]) k
theorem run_eqGuard_held {op : BinOp} {u u' : TypeId} {v v' : Value} : (eqGuard op t x y (.iface u v) (.iface u' v')).run P w = .ok () w := by
  unfold eqGuard; split <;> simp
theorem run_eqGuard_heldNil {op : BinOp} {u : TypeId} {v : Value} : (eqGuard op t x y (.iface u v) .nilIface).run P w = .ok () w := by
  unfold eqGuard; split <;> simp
theorem run_eqGuard_nilConst {op : BinOp} {v : Value} : (eqGuard op t x (.const v) .nilIface .nilIface).run P w = .ok () w := by
  unfold eqGuard; split <;> simp
theorem ev_const {v : Value} : ev n F (.const v) = v := rfl
/-- An interface's value against nil, written out. -/
theorem Wl.ineNil [hi : Ifc P t] (hx : ev n F x = .nilIface) (c : Wl P n ds Q ops rest (upd F d (.bool false)) w) : Wl P n ds Q ops (⟨some d, .binOp .neq t x (.const .nilIface) t', ty, pos, aft, none⟩ :: rest) F w :=
  Wl.val (by simp only [execOp, hx, ev_const, Sem.run_bind, run_eqGuard_nilConst, Result.andThen_ok, run_neq_nil_nil w t hi.at, Sem.run_pure]) c
theorem Wl.ineHeld [hi : Ifc P t] {u : TypeId} {v : Value} (hx : ev n F x = .iface u v) (c : Wl P n ds Q ops rest (upd F d (.bool true)) w) : Wl P n ds Q ops (⟨some d, .binOp .neq t x (.const .nilIface) t', ty, pos, aft, none⟩ :: rest) F w :=
  Wl.val (by simp only [execOp, hx, ev_const, Sem.run_bind, run_eqGuard_heldNil, Result.andThen_ok, run_neq_held_nil w t u v hi.at, Sem.run_pure]) c
theorem Wl.ieqNil [hi : Ifc P t] (hx : ev n F x = .nilIface) (c : Wl P n ds Q ops rest (upd F d (.bool true)) w) : Wl P n ds Q ops (⟨some d, .binOp .eql t x (.const .nilIface) t', ty, pos, aft, none⟩ :: rest) F w :=
  Wl.val (by simp only [execOp, hx, ev_const, Sem.run_bind, run_eqGuard_nilConst, Result.andThen_ok, run_eql_nil_nil w t hi.at, Sem.run_pure]) c
theorem Wl.ieqHeld [hi : Ifc P t] {u : TypeId} {v : Value} (hx : ev n F x = .iface u v) (c : Wl P n ds Q ops rest (upd F d (.bool false)) w) : Wl P n ds Q ops (⟨some d, .binOp .eql t x (.const .nilIface) t', ty, pos, aft, none⟩ :: rest) F w :=
  Wl.val (by simp only [execOp, hx, ev_const, Sem.run_bind, run_eqGuard_heldNil, Result.andThen_ok, run_eql_held_nil w t u v hi.at, Sem.run_pure]) c
/-- Two values of one integer type, held in interfaces. -/
theorem Wl.ieqInt [hi : Ifc P t] {u : TypeId} {k q : IntKind} {a b : Int} {r : Bool} [hu : Und P u (.int q)] [hc : CmpT P u] (hr : (a == b) = r) (hx : ev n F x = .iface u (.int k a)) (hy : ev n F y = .iface u (.int k b)) (c : Wl P n ds Q ops rest (upd F d (.bool r)) w) :
    Wl P n ds Q ops (⟨some d, .binOp .eql t x y t', ty, pos, aft, none⟩ :: rest) F w := by
  obtain ⟨ms, h⟩ := hi.h
  refine Wl.val ?_ c
  simp only [execOp, hx, hy, Sem.run_bind, run_eqGuard_held, Result.andThen_ok, Lib.run_eql_iface_int w a b h hc.h hu.h, hr, Sem.run_pure]
end
end Go.Proofs.YthppadlcejpgbaaGreatDoor.Wk

namespace Go.Proofs.YthppadlcejpgbaaGreatDoor
open Go Wk
open Go.RowKit (Below)
attribute [local irreducible] Go.Calls

instance ifcErr : Ifc Tryz.prog 82 := ⟨_, Tryz.underlying82⟩
instance concE : Conc Tryz.prog 146 := ⟨by kernel_rfl⟩
instance cmpE : CmpT Tryz.prog 146 := ⟨by kernel_rfl⟩

/-- What a digit is worth. -/
def hexv (c : UInt8) : Option Nat := if 48 ≤ c.toNat ∧ c.toNat ≤ 57 then some (c.toNat - 48) else if 97 ≤ c.toNat ∧ c.toNat ≤ 102 then some (c.toNat - 87) else if 65 ≤ c.toNat ∧ c.toNat ≤ 70 then some (c.toNat - 55) else none
/-- The number that digits say, at most mx. -/
def puGo (mx : Nat) : List UInt8 → Nat → Option Nat
  | [], n => some n
  | c :: r, n => match hexv c with
    | none => none
    | some d => if 16 * n + d ≤ mx then puGo mx r (16 * n + d) else none
def puR (mx : Nat) (s : List UInt8) : Option Nat := if s = [] then none else puGo mx s 0
theorem get_byte' (l : List UInt8) {k : Nat} (h : k < l.length) : ∃ c, l[k]? = some c := ⟨l[k], List.getElem?_eq_getElem h⟩
/-- A letter, made small. -/
def loB (c : UInt8) : Nat := (bits .or .u8 (c.toNat : Int) 32).toNat
theorem loB_spec (c : UInt8) : bits .or .u8 (c.toNat : Int) 32 = (loB c : Int) ∧ loB c < 256 ∧ (97 ≤ loB c ∧ loB c ≤ 122 → (97 ≤ c.toNat ∧ c.toNat ≤ 122 ∧ loB c = c.toNat) ∨ (65 ≤ c.toNat ∧ c.toNat ≤ 90 ∧ loB c = c.toNat + 32)) ∧ (97 ≤ c.toNat ∧ c.toNat ≤ 122 → loB c = c.toNat) ∧ (65 ≤ c.toNat ∧ c.toNat ≤ 90 → loB c = c.toNat + 32) := by
  have h : ∀ k : Fin 256, bits .or .u8 ((UInt8.ofNat k.val).toNat : Int) 32 = (loB (UInt8.ofNat k.val) : Int) ∧ loB (UInt8.ofNat k.val) < 256 ∧ (97 ≤ loB (UInt8.ofNat k.val) ∧ loB (UInt8.ofNat k.val) ≤ 122 → (97 ≤ (UInt8.ofNat k.val).toNat ∧ (UInt8.ofNat k.val).toNat ≤ 122 ∧ loB (UInt8.ofNat k.val) = (UInt8.ofNat k.val).toNat) ∨ (65 ≤ (UInt8.ofNat k.val).toNat ∧ (UInt8.ofNat k.val).toNat ≤ 90 ∧ loB (UInt8.ofNat k.val) = (UInt8.ofNat k.val).toNat + 32)) ∧ (97 ≤ (UInt8.ofNat k.val).toNat ∧ (UInt8.ofNat k.val).toNat ≤ 122 → loB (UInt8.ofNat k.val) = (UInt8.ofNat k.val).toNat) ∧ (65 ≤ (UInt8.ofNat k.val).toNat ∧ (UInt8.ofNat k.val).toNat ≤ 90 → loB (UInt8.ofNat k.val) = (UInt8.ofNat k.val).toNat + 32) := by decide +kernel
  have := h ⟨c.toNat, c.toNat_lt⟩
  simpa using this
theorem lower_spec {w : World} (c : UInt8) : Calls Tryz.prog 102 #[by8 c] w (Ret fun r w' => r = .int .u8 (loB c) ∧ w = w') := by
  refine (Tryz.internal_strconv_lower (c.toNat : Int) w).mono ?_
  rintro e w' ⟨rfl, rfl⟩
  rw [(loB_spec c).1]
  exact ⟨_, rfl, rfl, rfl⟩
/-- A parsed number, or the error. -/
def PuE (o : Option Nat) (r : Value) : Prop := match o with
  | some N => r = .tuple #[.int .u64 N, Value.nilIface]
  | none => ∃ m k : Int, r = .tuple #[.int .u64 m, .iface 146 (vi k)] ∧ (k = 1 ∨ k = 2)
theorem hexv_dig {c : UInt8} (h1 : 48 ≤ c.toNat) (h2 : c.toNat ≤ 57) : hexv c = some (c.toNat - 48) := by unfold hexv; rw [if_pos ⟨h1, h2⟩]
theorem hexv_let {c : UInt8} (h : ¬ (48 ≤ c.toNat ∧ c.toNat ≤ 57)) (h1 : 97 ≤ loB c) (h2 : loB c ≤ 122) : hexv c = if loB c ≤ 102 then some (loB c - 87) else none := by
  unfold hexv
  rw [if_neg h]
  rcases (loB_spec c).2.2.1 ⟨h1, h2⟩ with ⟨h3, h4, h5⟩ | ⟨h3, h4, h5⟩
  · rw [h5]
    by_cases h6 : c.toNat ≤ 102
    · rw [if_pos ⟨h3, h6⟩, if_pos h6]
    · rw [if_neg (by omega), if_neg (by omega), if_neg h6]
  · rw [h5]
    rw [if_neg (by omega)]
    by_cases h6 : c.toNat ≤ 70
    · rw [if_pos ⟨h3, h6⟩, if_pos (by omega)]; congr 1
    · rw [if_neg (by omega), if_neg (by omega)]
theorem hexv_none {c : UInt8} (h : ¬ (48 ≤ c.toNat ∧ c.toNat ≤ 57)) (h1 : ¬ (97 ≤ loB c ∧ loB c ≤ 122)) : hexv c = none := by
  obtain ⟨_, _, _, h4, h5⟩ := loB_spec c
  unfold hexv
  rw [if_neg h]
  by_cases h6 : 97 ≤ c.toNat ∧ c.toNat ≤ 102
  · exact absurd (by have := h4 ⟨h6.1, by omega⟩; omega) h1
  · rw [if_neg h6]
    by_cases h7 : 65 ≤ c.toNat ∧ c.toNat ≤ 70
    · exact absurd (by have := h5 ⟨h7.1, by omega⟩; omega) h1
    · rw [if_neg h7]
set_option maxRecDepth 8000 in
set_option maxHeartbeats 2000000 in
theorem iParse_spec {w : World} {s : List UInt8} {bits mx : Nat} (hb : bits = 8 ∧ mx = 255 ∨ bits = 32 ∧ mx = 4294967295) (hsl : s.length ≤ 1000000000) :
    Calls Tryz.prog 78 #[vs s, vi 16, vi bits] w (Ret fun r w' => PuE (puR mx s) r ∧ New w w') := by
  have hsh : IntKind.u64.wrap (IntKind.u64.wrap ((1 : Int) * 2 ^ (min (bits : Int).toNat IntKind.u64.bits)) - 1) = (mx : Int) := by
    rcases hb with ⟨rfl, rfl⟩ | ⟨rfl, rfl⟩ <;> decide
  have hmx : mx ≤ 4294967295 := by rcases hb with ⟨_, rfl⟩ | ⟨_, rfl⟩ <;> omega
  have hb2 : bits ≤ 32 ∧ 8 ≤ bits := by rcases hb with ⟨rfl, _⟩ | ⟨rfl, _⟩ <;> omega
  have hbw : IntKind.u64.wrap (bits : Int) = bits := wrap_u rfl (by omega) (by simp only [IntKind.bits]; omega)
  refine calls_of_Wc Tryz.func78 rfl Tryz.ntmps78 rfl ?_
  (repeat' (first | refine Wl.moveE (by conv => { lhs; whnf }) ?_ | refine Wl.assignE (by conv => { lhs; whnf }) ?_ | refine Wl.nil ?_ | refine Wl.guardY rfl rfl ?_ | refine Wl.pickTE rfl (by conv => { lhs; whnf }) ?_ | refine Wl.pickFE rfl (by conv => { lhs; whnf }) ?_ | refine Qseq.normal ?_ | refine Wc.seq ?_ | refine Wc.region ?_ | refine Wc.block ?_ | refine Wc.skip ?_ | refine Qblk.normal ?_ | refine Wc.condT rfl ?_ | refine Wc.condF rfl ?_ | refine Wl.convI rfl ?_ | (refine Wl.lss rfl rfl (fun _ => ?_) (fun _ => ?_) <;> (first | (exfalso; omega) | skip)) | (refine Wl.leq rfl rfl (fun _ => ?_) (fun _ => ?_) <;> (first | (exfalso; omega) | skip)) | (refine Wl.gtr rfl rfl (fun _ => ?_) (fun _ => ?_) <;> (first | (exfalso; omega) | skip)) | (refine Wl.eql rfl rfl (fun _ => ?_) (fun _ => ?_) <;> (first | (exfalso; omega) | skip)) | refine Wl.seql rfl rfl (fun _ => ?_) (fun _ => ?_)))
  · rename_i he
    refine Wl.mkIface rfl ?_
    (repeat' (first | refine Wl.assignE (by conv => { lhs; whnf }) ?_ | refine Wl.nil ?_ | refine Qseq.normal ?_ | refine Wc.ret ?_ | refine Qseq.ret ?_))
    refine Qfn.ret2 rfl rfl rfl ⟨_, rfl, ?_, Chg.refl _ _⟩
    rw [he]
    exact ⟨0, 2, rfl, .inr rfl⟩
  have hs : s ≠ [] := by assumption
  rw [hbw]
  refine Wl.shlW rfl rfl (by omega) ?_
  refine Wl.subW rfl rfl ?_
  rw [hsh]
  clear hsh hbw
  (repeat' (first | refine Wl.moveE (by conv => { lhs; whnf }) ?_ | refine Wl.assignE (by conv => { lhs; whnf }) ?_ | refine Wl.nil ?_ | refine Qseq.normal ?_ | refine Wc.seq ?_ | refine Wc.region ?_))
  refine Wl.strBytes rfl (by simp only [maxLen]; omega) fun w1 cap C fr hC htk hCs n1 s1 rb => ?_
  (repeat' (first | refine Wl.moveE (by conv => { lhs; whnf }) ?_ | refine Wl.nil ?_ | refine Wl.lenS rfl ?_ | refine Qseq.normal ?_ | refine Wc.block ?_))
  refine Wc.loop (σ := Nat × Nat) (fun q => [(1, vi 16), (8, .bool false), (10, .int .u64 1152921504606846976), (11, .int .u64 mx), (12, .bool false), (13, .int .u64 q.2), (99, .slice (some ⟨w.heap.size, 0, none⟩) s.length cap), (100, vi s.length), (101, vi q.1)])
    (fun q w' => q.1 ≤ s.length ∧ q.2 ≤ mx ∧ puR mx s = puGo mx (s.drop q.1) q.2 ∧ w' = w1) (fun q => s.length - q.1) (0, 0) ⟨rfl, rfl, rfl, rfl, rfl, rfl, rfl, rfl, rfl, trivial⟩ ⟨Nat.zero_le _, Nat.zero_le _, by unfold puR; rw [if_neg hs]; rfl, rfl⟩ ?_
  rintro ⟨k, n⟩ G _ ⟨hk, hn, hg, rfl⟩
  dsimp only at hk hn hg
  simp only [upds]
  (repeat' (first | refine Wl.moveE (by conv => { lhs; whnf }) ?_ | refine Wl.assignE (by conv => { lhs; whnf }) ?_ | refine Wl.nil ?_ | refine Wl.guardN rfl rfl ?_ | refine Wl.pickFE rfl (by conv => { lhs; whnf }) ?_ | refine Qseq.normal ?_ | refine Wc.seq ?_ | refine Wc.region ?_ | refine Wc.block ?_ | refine Wc.skip ?_ | refine Wc.exit ?_ | refine Wc.ret ?_ | refine Qseq.exit ?_ | refine Qblk.hit ?_ | refine Qloop.exit ?_ | refine Wc.condT rfl ?_ | refine Wc.condF rfl ?_ | refine Wl.lss rfl rfl (fun _ => ?_) (fun _ => ?_)))
  · obtain ⟨c, hc⟩ := get_byte' s (k := k) (by omega)
    have hdr : s.drop k = c :: s.drop (k + 1) := by
      obtain ⟨h1, h2⟩ := List.getElem?_eq_some_iff.1 hc
      rw [List.drop_eq_getElem_cons h1, h2]
    rw [hdr] at hg
    have hcl := c.toNat_lt
    obtain ⟨_, hl256, _, _, _⟩ := loB_spec c
    refine Wl.idxLoadV rb rfl rfl (by omega) (by rw [Int.toNat_natCast]; exact hc) rfl rfl fun p => ?_
    by_cases hdig : 48 ≤ c.toNat ∧ c.toNat ≤ 57
    · obtain ⟨h1, h2⟩ := hdig
      unfold puGo at hg
      rw [hexv_dig h1 h2] at hg
      dsimp only at hg
      obtain ⟨d, hd⟩ : ∃ d, d = c.toNat - 48 := ⟨_, rfl⟩
      rw [← hd] at hg
      have hv : IntKind.u8.wrap ((c.toNat : Int) - 48) = (d : Int) := by rw [IntKind.wrap_u8]; omega
      (repeat' (first | refine Wl.moveE (by conv => { lhs; whnf }) ?_ | refine Wl.assignE (by conv => { lhs; whnf }) ?_ | refine Wl.nil ?_ | refine Wl.guardY rfl rfl ?_ | refine Wl.guardN rfl rfl ?_ | refine Wl.pickTE rfl (by conv => { lhs; whnf }) ?_ | refine Wl.pickFE rfl (by conv => { lhs; whnf }) ?_ | refine Qseq.normal ?_ | refine Wc.seq ?_ | refine Wc.region ?_ | refine Wc.block ?_ | refine Wc.condT rfl ?_ | refine Wc.condF rfl ?_ | (refine Wl.leq rfl rfl (fun _ => ?_) (fun _ => ?_) <;> (first | (exfalso; omega) | skip)) | (refine Wl.eql rfl rfl (fun _ => ?_) (fun _ => ?_) <;> (first | (exfalso; omega) | skip))))
      refine Wl.subW rfl rfl ?_
      rw [hv]
      (repeat' (first | refine Wl.moveE (by conv => { lhs; whnf }) ?_ | refine Wl.assignE (by conv => { lhs; whnf }) ?_ | refine Wl.nil ?_ | refine Qseq.normal ?_ | refine Wc.seq ?_ | refine Wc.region ?_ | refine Qblk.normal ?_))
      refine Wl.convI rfl ?_
      rw [show IntKind.u8.wrap 16 = 16 by decide]
      refine Wl.geq rfl rfl (fun _ => by omega) (fun _ => ?_)
      (repeat' (first | refine Wl.moveE (by conv => { lhs; whnf }) ?_ | refine Wl.nil ?_ | refine Qseq.normal ?_ | refine Wc.seq ?_ | refine Wc.region ?_ | refine Wc.skip ?_ | refine Wc.condF rfl ?_))
      refine Wl.geq rfl rfl (fun _ => by omega) (fun _ => ?_)
      (repeat' (first | refine Wl.moveE (by conv => { lhs; whnf }) ?_ | refine Wl.nil ?_ | refine Qseq.normal ?_ | refine Wc.seq ?_ | refine Wc.region ?_ | refine Wc.skip ?_ | refine Wc.condF rfl ?_))
      refine Wl.convI rfl ?_
      have e1 : IntKind.u64.wrap ((n : Int) * IntKind.u64.wrap 16) = ((16 * n : Nat) : Int) := by
        rw [show IntKind.u64.wrap 16 = 16 by decide, wrap_u rfl (by omega) (by simp only [IntKind.bits]; omega)]; omega
      have e2 : IntKind.u64.wrap (d : Int) = (d : Int) := wrap_u rfl (by omega) (by simp only [IntKind.bits]; omega)
      have e3 : IntKind.u64.wrap (((16 * n : Nat) : Int) + (d : Int)) = ((16 * n + d : Nat) : Int) := by
        rw [wrap_u rfl (by omega) (by simp only [IntKind.bits]; omega)]; omega
      refine Wl.mulW rfl rfl ?_
      rw [e1]
      (repeat' (first | refine Wl.moveE (by conv => { lhs; whnf }) ?_ | refine Wl.assignE (by conv => { lhs; whnf }) ?_ | refine Wl.nil ?_ | refine Qseq.normal ?_ | refine Wc.seq ?_ | refine Wc.region ?_))
      refine Wl.convI rfl ?_
      rw [e2]
      refine Wl.addW rfl rfl ?_
      rw [e3]
      clear e1 e2 e3 hv
      (repeat' (first | refine Wl.moveE (by conv => { lhs; whnf }) ?_ | refine Wl.assignE (by conv => { lhs; whnf }) ?_ | refine Wl.nil ?_ | refine Qseq.normal ?_ | refine Wc.seq ?_ | refine Wc.region ?_))
      refine Wl.lss rfl rfl (fun _ => by omega) (fun _ => ?_)
      (repeat' (first | refine Wl.moveE (by conv => { lhs; whnf }) ?_ | refine Wl.guardY rfl rfl ?_))
      by_cases hle : 16 * n + d ≤ mx
      · refine Wl.gtr rfl rfl (fun _ => by omega) (fun _ => ?_)
        (repeat' (first | refine Wl.moveE (by conv => { lhs; whnf }) ?_ | refine Wl.assignE (by conv => { lhs; whnf }) ?_ | refine Wl.nil ?_ | refine Wl.pickFE rfl (by conv => { lhs; whnf }) ?_ | refine Qseq.normal ?_ | refine Wc.region ?_ | refine Wc.skip ?_ | refine Qblk.normal ?_ | refine Wc.condF rfl ?_ | refine Wl.add rfl rfl (by omega) (by omega) ?_))
        rw [if_pos hle] at hg
        exact Qloop.normal (k + 1, 16 * n + d) ⟨rfl, rfl, rfl, rfl, rfl, rfl, rfl, rfl, rfl, trivial⟩ ⟨by dsimp only; omega, hle, hg, rfl⟩ (by dsimp only; omega)
      · refine Wl.gtr rfl rfl (fun _ => ?_) (fun _ => by omega)
        (repeat' (first | refine Wl.moveE (by conv => { lhs; whnf }) ?_ | refine Wl.nil ?_ | refine Wl.pickFE rfl (by conv => { lhs; whnf }) ?_ | refine Qseq.normal ?_ | refine Wc.seq ?_ | refine Wc.region ?_ | refine Wc.condT rfl ?_))
        refine Wl.mkIface rfl ?_
        (repeat' (first | refine Wl.assignE (by conv => { lhs; whnf }) ?_ | refine Wl.nil ?_ | refine Qseq.normal ?_ | refine Wc.ret ?_ | refine Qseq.ret ?_ | refine Qblk.ret ?_ | refine Qloop.ret ?_))
        rw [if_neg hle] at hg
        exact Qfn.ret2 rfl rfl rfl ⟨_, rfl, by rw [hg]; exact ⟨mx, 1, rfl, .inl rfl⟩, n1⟩
    by_cases hlet : 97 ≤ loB c ∧ loB c ≤ 122
    · obtain ⟨h1, h2⟩ := hlet
      unfold puGo at hg
      rw [hexv_let hdig h1 h2] at hg
      obtain ⟨d, hd⟩ : ∃ d, d = loB c - 87 := ⟨_, rfl⟩
      have hv : IntKind.u8.wrap (IntKind.u8.wrap ((loB c : Int) - 97) + 10) = (d : Int) := by rw [IntKind.wrap_u8, IntKind.wrap_u8]; omega
      have h95 : c.toNat ≠ 95 := fun e => by rcases (loB_spec c).2.2.1 ⟨h1, h2⟩ with h | h <;> omega
      (repeat' (first | refine Wl.moveE (by conv => { lhs; whnf }) ?_ | refine Wl.assignE (by conv => { lhs; whnf }) ?_ | refine Wl.nil ?_ | refine Wl.guardY rfl rfl ?_ | refine Wl.guardN rfl rfl ?_ | refine Wl.pickTE rfl (by conv => { lhs; whnf }) ?_ | refine Wl.pickFE rfl (by conv => { lhs; whnf }) ?_ | refine Qseq.normal ?_ | refine Wc.seq ?_ | refine Wc.region ?_ | refine Wc.block ?_ | refine Wc.condF rfl ?_ | (refine Wl.leq rfl rfl (fun _ => ?_) (fun _ => ?_) <;> (first | (exfalso; omega) | skip)) | (refine Wl.eql rfl rfl (fun _ => ?_) (fun _ => ?_) <;> (first | (exfalso; omega) | skip))))
      refine Wl.call (lower_spec c) rfl ?_
      rintro _ _ ⟨rfl, rfl⟩
      (repeat' (first | refine Wl.moveE (by conv => { lhs; whnf }) ?_ | refine Wl.guardY rfl rfl ?_ | (refine Wl.leq rfl rfl (fun _ => ?_) (fun _ => ?_) <;> (first | (exfalso; omega) | skip))))
      refine Wl.call (lower_spec c) rfl ?_
      rintro _ _ ⟨rfl, rfl⟩
      (repeat' (first | refine Wl.moveE (by conv => { lhs; whnf }) ?_ | refine Wl.assignE (by conv => { lhs; whnf }) ?_ | refine Wl.nil ?_ | refine Wl.guardY rfl rfl ?_ | refine Wl.pickTE rfl (by conv => { lhs; whnf }) ?_ | refine Qseq.normal ?_ | refine Wc.region ?_ | refine Wc.condT rfl ?_ | (refine Wl.leq rfl rfl (fun _ => ?_) (fun _ => ?_) <;> (first | (exfalso; omega) | skip))))
      refine Wl.call (lower_spec c) rfl ?_
      rintro _ _ ⟨rfl, rfl⟩
      skip
      refine Wl.subW rfl rfl ?_
      refine Wl.addW rfl rfl ?_
      rw [hv]
      (repeat' (first | refine Wl.moveE (by conv => { lhs; whnf }) ?_ | refine Wl.assignE (by conv => { lhs; whnf }) ?_ | refine Wl.nil ?_ | refine Qseq.normal ?_ | refine Wc.seq ?_ | refine Wc.region ?_ | refine Qblk.normal ?_))
      refine Wl.convI rfl ?_
      rw [show IntKind.u8.wrap 16 = 16 by decide]
      by_cases h102 : loB c ≤ 102
      rotate_left
      · rw [if_neg h102] at hg
        refine Wl.geq rfl rfl (fun _ => ?_) (fun _ => by omega)
        (repeat' (first | refine Wl.nil ?_ | refine Qseq.normal ?_ | refine Wc.seq ?_ | refine Wc.region ?_ | refine Wc.condT rfl ?_))
        refine Wl.mkIface rfl ?_
        (repeat' (first | refine Wl.assignE (by conv => { lhs; whnf }) ?_ | refine Wl.nil ?_ | refine Qseq.normal ?_ | refine Wc.ret ?_ | refine Qseq.ret ?_ | refine Qblk.ret ?_ | refine Qloop.ret ?_))
        exact Qfn.ret2 rfl rfl rfl ⟨_, rfl, by rw [hg]; exact ⟨0, 2, rfl, .inr rfl⟩, n1⟩
      rw [if_pos h102, ← hd] at hg
      dsimp only at hg
      refine Wl.geq rfl rfl (fun _ => by omega) (fun _ => ?_)
      (repeat' (first | refine Wl.moveE (by conv => { lhs; whnf }) ?_ | refine Wl.nil ?_ | refine Qseq.normal ?_ | refine Wc.seq ?_ | refine Wc.region ?_ | refine Wc.skip ?_ | refine Wc.condF rfl ?_))
      refine Wl.geq rfl rfl (fun _ => by omega) (fun _ => ?_)
      (repeat' (first | refine Wl.moveE (by conv => { lhs; whnf }) ?_ | refine Wl.nil ?_ | refine Qseq.normal ?_ | refine Wc.seq ?_ | refine Wc.region ?_ | refine Wc.skip ?_ | refine Wc.condF rfl ?_))
      refine Wl.convI rfl ?_
      have e1 : IntKind.u64.wrap ((n : Int) * IntKind.u64.wrap 16) = ((16 * n : Nat) : Int) := by
        rw [show IntKind.u64.wrap 16 = 16 by decide, wrap_u rfl (by omega) (by simp only [IntKind.bits]; omega)]; omega
      have e2 : IntKind.u64.wrap (d : Int) = (d : Int) := wrap_u rfl (by omega) (by simp only [IntKind.bits]; omega)
      have e3 : IntKind.u64.wrap (((16 * n : Nat) : Int) + (d : Int)) = ((16 * n + d : Nat) : Int) := by
        rw [wrap_u rfl (by omega) (by simp only [IntKind.bits]; omega)]; omega
      refine Wl.mulW rfl rfl ?_
      rw [e1]
      (repeat' (first | refine Wl.moveE (by conv => { lhs; whnf }) ?_ | refine Wl.assignE (by conv => { lhs; whnf }) ?_ | refine Wl.nil ?_ | refine Qseq.normal ?_ | refine Wc.seq ?_ | refine Wc.region ?_))
      refine Wl.convI rfl ?_
      rw [e2]
      refine Wl.addW rfl rfl ?_
      rw [e3]
      clear e1 e2 e3 hv
      (repeat' (first | refine Wl.moveE (by conv => { lhs; whnf }) ?_ | refine Wl.assignE (by conv => { lhs; whnf }) ?_ | refine Wl.nil ?_ | refine Qseq.normal ?_ | refine Wc.seq ?_ | refine Wc.region ?_))
      refine Wl.lss rfl rfl (fun _ => by omega) (fun _ => ?_)
      (repeat' (first | refine Wl.moveE (by conv => { lhs; whnf }) ?_ | refine Wl.guardY rfl rfl ?_))
      by_cases hle : 16 * n + d ≤ mx
      · refine Wl.gtr rfl rfl (fun _ => by omega) (fun _ => ?_)
        (repeat' (first | refine Wl.moveE (by conv => { lhs; whnf }) ?_ | refine Wl.assignE (by conv => { lhs; whnf }) ?_ | refine Wl.nil ?_ | refine Wl.pickFE rfl (by conv => { lhs; whnf }) ?_ | refine Qseq.normal ?_ | refine Wc.region ?_ | refine Wc.skip ?_ | refine Qblk.normal ?_ | refine Wc.condF rfl ?_ | refine Wl.add rfl rfl (by omega) (by omega) ?_))
        rw [if_pos hle] at hg
        exact Qloop.normal (k + 1, 16 * n + d) ⟨rfl, rfl, rfl, rfl, rfl, rfl, rfl, rfl, rfl, trivial⟩ ⟨by dsimp only; omega, hle, hg, rfl⟩ (by dsimp only; omega)
      · refine Wl.gtr rfl rfl (fun _ => ?_) (fun _ => by omega)
        (repeat' (first | refine Wl.moveE (by conv => { lhs; whnf }) ?_ | refine Wl.nil ?_ | refine Wl.pickFE rfl (by conv => { lhs; whnf }) ?_ | refine Qseq.normal ?_ | refine Wc.seq ?_ | refine Wc.region ?_ | refine Wc.condT rfl ?_))
        refine Wl.mkIface rfl ?_
        (repeat' (first | refine Wl.assignE (by conv => { lhs; whnf }) ?_ | refine Wl.nil ?_ | refine Qseq.normal ?_ | refine Wc.ret ?_ | refine Qseq.ret ?_ | refine Qblk.ret ?_ | refine Qloop.ret ?_))
        rw [if_neg hle] at hg
        exact Qfn.ret2 rfl rfl rfl ⟨_, rfl, by rw [hg]; exact ⟨mx, 1, rfl, .inl rfl⟩, n1⟩
    · unfold puGo at hg
      rw [hexv_none hdig hlet] at hg
      dsimp only at hg
      (repeat' (first | refine Wl.moveE (by conv => { lhs; whnf }) ?_ | refine Wl.assignE (by conv => { lhs; whnf }) ?_ | refine Wl.nil ?_ | refine Wl.guardY rfl rfl ?_ | refine Wl.guardN rfl rfl ?_ | refine Wl.pickTE rfl (by conv => { lhs; whnf }) ?_ | refine Wl.pickFE rfl (by conv => { lhs; whnf }) ?_ | refine Qseq.normal ?_ | refine Wc.seq ?_ | refine Wc.region ?_ | refine Wc.block ?_ | refine Wc.condF rfl ?_ | (refine Wl.leq rfl rfl (fun _ => ?_) (fun _ => ?_) <;> (first | (exfalso; omega) | skip)) | refine Wl.eql rfl rfl (fun _ => ?_) (fun _ => ?_)))
      all_goals
        refine Wl.call (lower_spec c) rfl ?_
        rintro _ _ ⟨rfl, rfl⟩
        (repeat' (first | refine Wl.moveE (by conv => { lhs; whnf }) ?_ | refine Wl.assignE (by conv => { lhs; whnf }) ?_ | refine Wl.nil ?_ | refine Wl.guardY rfl rfl ?_ | refine Wl.guardN rfl rfl ?_ | refine Wl.pickFE rfl (by conv => { lhs; whnf }) ?_ | refine Qseq.normal ?_ | refine Wc.seq ?_ | refine Wc.region ?_ | refine Wc.condF rfl ?_ | refine Wl.leq rfl rfl (fun _ => ?_) (fun _ => ?_)))
      all_goals first
        | refine Wl.mkIface rfl ?_
        | (refine Wl.call (lower_spec c) rfl ?_
           rintro _ _ ⟨rfl, rfl⟩
           (repeat' (first | refine Wl.assignE (by conv => { lhs; whnf }) ?_ | refine Wl.nil ?_ | refine Wl.guardY rfl rfl ?_ | refine Wl.pickTE rfl (by conv => { lhs; whnf }) ?_ | refine Qseq.normal ?_ | refine Wc.seq ?_ | refine Wc.region ?_ | refine Wc.condF rfl ?_ | (refine Wl.leq rfl rfl (fun _ => ?_) (fun _ => ?_) <;> (first | (exfalso; omega) | skip))))
           refine Wl.mkIface rfl ?_)
      all_goals
        (repeat' (first | refine Wl.assignE (by conv => { lhs; whnf }) ?_ | refine Wl.nil ?_ | refine Qseq.normal ?_ | refine Wc.ret ?_ | refine Qseq.ret ?_ | refine Qblk.ret ?_ | refine Qloop.ret ?_))
        exact Qfn.ret2 rfl rfl rfl ⟨_, rfl, by rw [hg]; exact ⟨0, 2, rfl, .inr rfl⟩, n1⟩
  · have e : k = s.length := by omega
    subst e
    rw [List.drop_length] at hg
    refine Qfn.ret2 rfl rfl rfl ⟨_, rfl, ?_, n1⟩
    rw [hg]
    exact rfl
/-- The errors' variables, as they lie in memory. -/
def ErrV (w : World) : Prop := ∀ g, g = 2 ∨ g = 3 → g < w.heap.size ∧ ∃ te pe, w.cell? ⟨g, 0, none⟩ = some (.iface te pe)
theorem ErrV.new {w w' : World} (h : ErrV w) (n : New w w') : ErrV w' := fun g hg => by
  obtain ⟨h1, te, pe, h2⟩ := h g hg
  refine ⟨Nat.lt_of_lt_of_le h1 n.size, te, pe, ?_⟩
  have := n.block g h1 id
  simp only [World.cell?] at h2 ⊢
  rw [this]; exact h2
/-- A parsed number, or an error. -/
def PuX (o : Option Nat) (r : Value) : Prop := match o with
  | some N => r = .tuple #[.int .u64 N, Value.nilIface]
  | none => ∃ (m : Int) (t : TypeId) (v : Value), r = .tuple #[.int .u64 m, .iface t v]
theorem Parse_spec {w : World} {s : List UInt8} {bits mx : Nat} (he : ErrV w) (hb : bits = 8 ∧ mx = 255 ∨ bits = 32 ∧ mx = 4294967295) (hsl : s.length ≤ 1000000000) :
    Calls Tryz.prog 60 #[vs s, vi 16, vi bits] w (Ret fun r w' => PuX (puR mx s) r ∧ New w w') := by
  refine calls_of_Wc Tryz.func60 rfl Tryz.ntmps60 rfl ?_
  (repeat' (first | refine Wl.moveE (by conv => { lhs; whnf }) ?_ | refine Wl.assignE (by conv => { lhs; whnf }) ?_ | refine Wl.nil ?_ | refine Qseq.normal ?_ | refine Wc.seq ?_ | refine Wc.region ?_))
  refine Wl.call (iParse_spec hb hsl) rfl ?_
  rintro r w1 ⟨hr, n1⟩
  cases ho : puR mx s with
  | some N =>
    rw [ho] at hr
    replace hr : r = .tuple #[.int .u64 N, Value.nilIface] := hr
    subst hr
    (repeat' (first | refine Wl.moveE (by conv => { lhs; whnf }) ?_ | refine Wl.assignE (by conv => { lhs; whnf }) ?_ | refine Wl.nil ?_ | refine Wl.extract rfl rfl ?_ | refine Qseq.normal ?_ | refine Wc.seq ?_ | refine Wc.region ?_))
    refine Wl.ineNil rfl ?_
    (repeat' (first | refine Wl.moveE (by conv => { lhs; whnf }) ?_ | refine Wl.assignE (by conv => { lhs; whnf }) ?_ | refine Wl.nil ?_ | refine Qseq.normal ?_ | refine Wc.seq ?_ | refine Wc.region ?_ | refine Wc.skip ?_ | refine Wc.ret ?_ | refine Wc.condF rfl ?_))
    exact Qfn.ret2 rfl rfl rfl ⟨_, rfl, rfl, n1⟩
  | none =>
    rw [ho] at hr
    obtain ⟨m, k, rfl, hk⟩ := hr
    have hs2 : (⟨s.toArray⟩ : ByteArray).size ≤ 281474976710656 := by show s.toArray.size ≤ _; simp; omega
    (repeat' (first | refine Wl.moveE (by conv => { lhs; whnf }) ?_ | refine Wl.assignE (by conv => { lhs; whnf }) ?_ | refine Wl.nil ?_ | refine Wl.extract rfl rfl ?_ | refine Qseq.normal ?_ | refine Wc.seq ?_ | refine Wc.region ?_))
    refine Wl.ineHeld rfl ?_
    (repeat' (first | refine Wl.moveE (by conv => { lhs; whnf }) ?_ | refine Wl.nil ?_ | refine Qseq.normal ?_ | refine Wc.seq ?_ | refine Wc.region ?_ | refine Wc.condT rfl ?_))
    rcases hk with rfl | rfl
    · obtain ⟨_, te, pe, hc⟩ := he.new n1 3 (.inr rfl)
      refine Wl.call (φ := fun r w' => (∃ t v, r = .iface t v) ∧ New w1 w') ((Tryz.strconv_toError_range ⟨#[80, 97, 114, 115, 101, 85, 105, 110, 116]⟩ ⟨s.toArray⟩ 16 bits _ w1 hs2 hc (.inr ⟨_, _, rfl⟩)).mono ?_) rfl ?_
      · rintro e w2 ⟨N, rfl, _, _, hB⟩
        exact ⟨_, rfl, ⟨_, _, rfl⟩, New.ofBelow hB⟩
      rintro _ w2 ⟨⟨t, v, rfl⟩, n2⟩
      (repeat' (first | refine Wl.assignE (by conv => { lhs; whnf }) ?_ | refine Wl.nil ?_ | refine Qseq.normal ?_ | refine Wc.ret ?_ | refine Qseq.ret ?_))
      exact Qfn.ret2 rfl rfl rfl ⟨_, rfl, ⟨m, t, v, rfl⟩, n1.trans n2⟩
    · obtain ⟨_, te, pe, hc⟩ := he.new n1 2 (.inl rfl)
      refine Wl.call (φ := fun r w' => (∃ t v, r = .iface t v) ∧ New w1 w') ((Tryz.strconv_toError_syntax ⟨#[80, 97, 114, 115, 101, 85, 105, 110, 116]⟩ ⟨s.toArray⟩ 16 bits _ w1 hs2 hc (.inr ⟨_, _, rfl⟩)).mono ?_) rfl ?_
      · rintro e w2 ⟨N, rfl, _, _, hB⟩
        exact ⟨_, rfl, ⟨_, _, rfl⟩, New.ofBelow hB⟩
      rintro _ w2 ⟨⟨t, v, rfl⟩, n2⟩
      (repeat' (first | refine Wl.assignE (by conv => { lhs; whnf }) ?_ | refine Wl.nil ?_ | refine Qseq.normal ?_ | refine Wc.ret ?_ | refine Qseq.ret ?_))
      exact Qfn.ret2 rfl rfl rfl ⟨_, rfl, ⟨m, t, v, rfl⟩, n1.trans n2⟩
end Go.Proofs.YthppadlcejpgbaaGreatDoor

namespace Go.Proofs.YthppadlcejpgbaaGreatDoor
open Go Wk
open Go.RowKit (Below)
attribute [local irreducible] Go.Calls

def splitR (c : UInt8) : List UInt8 → List (List UInt8)
  | [] => [[]]
  | b :: l => if b = c then [] :: splitR c l else (match splitR c l with | h :: t => (b :: h) :: t | [] => [[b]])
theorem splitR_free {c : UInt8} : ∀ {l : List UInt8}, (∀ b ∈ l, b ≠ c) → splitR c l = [l]
  | [], _ => rfl
  | b :: l, h => by
    rw [splitR, if_neg (h b (by simp)), splitR_free fun x hx => h x (by simp [hx])]
theorem splitR_at {c : UInt8} {r : List UInt8} : ∀ {p : List UInt8}, (∀ b ∈ p, b ≠ c) → splitR c (p ++ c :: r) = p :: splitR c r
  | [], _ => by simp [splitR]
  | b :: l, h => by
    rw [List.cons_append, splitR, if_neg (h b (by simp)), splitR_at fun x hx => h x (by simp [hx])]
theorem splitR_ne (c : UInt8) : ∀ l : List UInt8, splitR c l ≠ []
  | [] => by simp [splitR]
  | b :: l => by rw [splitR]; split; simp; split <;> simp
theorem splitR_length (c : UInt8) : ∀ l : List UInt8, (splitR c l).length = l.count c + 1
  | [] => rfl
  | b :: l => by
    have ih := splitR_length c l
    rw [splitR, List.count_cons]
    split
    · rename_i e; simp [ih, e]
    · rename_i e
      have hne := splitR_ne c l
      revert ih hne
      generalize splitR c l = q
      intro ih hne
      cases q with
      | nil => exact absurd rfl hne
      | cons h t => simp only [List.length_cons] at ih ⊢; simp [e]; omega
theorem splitK_splitR (c : UInt8) : ∀ (k : Nat) (l : List UInt8), l.count c = k → Lib.splitK [c] 0 k l = splitR c l
  | 0, l, h => by
    rw [splitR_free fun b hb e => by subst e; exact absurd (List.count_pos_iff.2 hb) (by omega)]
    rfl
  | k + 1, l, h => by
    have hge := Lib.indexByte_ge l c
    have hne : Lib.indexByte l c ≠ -1 := fun e => by
      obtain ⟨j, hj⟩ := List.mem_iff_getElem?.1 (List.count_pos_iff.1 (show 0 < l.count c by omega))
      exact Lib.indexByte_none e j hj
    obtain ⟨o, ho⟩ := Int.eq_ofNat_of_zero_le (show 0 ≤ Lib.indexByte l c by omega)
    obtain ⟨h1, h2⟩ := Lib.indexByte_some ho
    obtain ⟨hlt, he⟩ := List.getElem?_eq_some_iff.1 h1
    have hl : l = l.take o ++ c :: l.drop (o + 1) := by
      conv => lhs; rw [← List.take_append_drop o l, List.drop_eq_getElem_cons hlt, he]
    have hfree : ∀ b ∈ l.take o, b ≠ c := fun b hb e => by
      subst e
      obtain ⟨j, hj⟩ := List.mem_iff_getElem?.1 hb
      rw [List.getElem?_take] at hj
      split at hj
      · exact h2 j ‹_› hj
      · cases hj
    have hc0 : (l.take o).count c = 0 := List.count_eq_zero.2 fun hm => hfree c hm rfl
    have hcd : (l.drop (o + 1)).count c = k := by
      rw [hl, List.count_append, hc0, List.count_cons_self] at h
      omega
    have hi : (Lib.index l [c] == -1) = false := by rw [Lib.index_one, ho]; simp
    unfold Lib.splitK
    rw [hi, Lib.index_one, ho]
    simp only [Bool.false_eq_true, if_false, Int.toNat_natCast, Nat.add_zero, List.length_singleton]
    rw [splitK_splitR c k _ hcd]
    conv => rhs; rw [hl]
    rw [splitR_at hfree]

theorem SplitC_spec {l : List UInt8} {w : World} (c : UInt8) (hl : l.length ≤ 100000000) :
    Calls Tryz.prog 45 #[vs l, vs [c]] w (Ret fun r w' => OwnS (one vs) 9 1 (fun b => w.heap.size ≤ b) (fun _ => False) w' r (splitR c l) ∧ New w w') := by
  refine calls_of_Wc (n := 8) Tryz.func45 rfl rfl rfl ?_
  (repeat' (first | refine Wl.moveE (by conv => { lhs; whnf }) ?_ | refine Wl.assignE (by conv => { lhs; whnf }) ?_ | refine Wl.nil ?_ | refine Qseq.normal ?_ | refine Wc.seq ?_ | refine Wc.region ?_))
  have hsz : (⟨l.toArray⟩ : ByteArray).size = l.length := by simp [ByteArray.size]
  have hcnt : Lib.countB ⟨l.toArray⟩ ⟨#[c]⟩ = l.count c := Lib.count_one c l
  have hle : l.count c ≤ l.length := List.count_le_length
  have hC : Calls Tryz.prog 83 #[.string ⟨l.toArray⟩, .string ⟨#[c]⟩] w fun e w' => e = .returned (.int .i64 (Lib.countB ⟨l.toArray⟩ ⟨#[c]⟩)) ∧ w' = w := by
    refine (Tryz.strings_Count_one ⟨l.toArray⟩ c w).mono fun e w' h => ⟨?_, h.2⟩
    rw [h.1, hcnt]; rfl
  have hI : ∀ (x : ByteArray) (cc : Array Value), x.size ≤ (⟨l.toArray⟩ : ByteArray).size → Calls Tryz.prog 84 #[.string x, .string ⟨#[c]⟩] (w.alloc (.cells cc 9)) fun e w' => e = .returned (.int .i64 (Lib.indexB x ⟨#[c]⟩)) ∧ w' = w.alloc (.cells cc 9) := by
    intro x cc _
    refine (Tryz.strings_Index_one x c _).mono fun e w' h => ⟨?_, h.2⟩
    rw [h.1]
    show _ = Ending.returned (Value.int .i64 (Lib.index x.data.toList [c]))
    rw [Lib.index_one]
  have core := Any.strings_genSplit_core Tryz.lays221 (by kernel_rfl) ⟨l.toArray⟩ ⟨#[c]⟩ 0 (-1) (l.count c + 1) w (by rw [hsz]; omega) (Nat.le_refl 1) (Nat.zero_le _) hI hC (by decide) (by decide) (by rw [if_pos (by decide), hcnt, hsz]; omega)
  have hdata : (Lib.splitB ⟨#[c]⟩ 0 (l.count c) ⟨l.toArray⟩).map (·.data.toList) = splitR c l := by
    rw [Lib.splitB_data]; exact splitK_splitR c _ l rfl
  have hlen := congrArg List.length hdata
  simp only [List.length_map] at hlen
  have hln : (Lib.splitB ⟨#[c]⟩ 0 (l.count c) ⟨l.toArray⟩).length = l.count c + 1 := Lib.splitB_all ⟨#[c]⟩ (Nat.le_refl 1) 0 _ _ hcnt
  have hcells : (Lib.cellsOf (Lib.splitB ⟨#[c]⟩ 0 (l.count c) ⟨l.toArray⟩) (l.count c + 1)) = ((splitR c l).map vs).toArray := by
    unfold Lib.cellsOf
    rw [hln, Nat.sub_self, List.replicate_zero, List.append_nil, ← hdata, List.map_map]
    rfl
  refine Wl.call (φ := fun r w' => OwnS (one vs) 9 1 (fun b => w.heap.size ≤ b) (fun _ => False) w' r (splitR c l) ∧ New w w') (core.mono fun e w' h => ⟨_, h.1, ?_, ?_⟩) rfl ?_
  · rw [h.2, Nat.add_sub_cancel, hcells, hlen]
    refine ⟨(splitR c l).map vs, ⟨by simp, .inr ⟨_, _, _, rfl, Nat.le_refl _, heap_alloc_new w _, ?_, by simp only [maxLen]; omega, ?_, ?_⟩⟩, fun i x hx => ?_⟩
    · omega
    · simp only [List.size_toArray, List.length_map]; omega
    · rw [Nat.mul_one, List.take_of_length_le (by simp)]
    · rw [Nat.mul_one]
      show List.take 1 (List.drop i (List.map vs _)) = [vs x]
      obtain ⟨h1, h2⟩ := List.getElem?_eq_some_iff.1 hx
      rw [List.drop_eq_getElem_cons (by simpa using h1), List.getElem_map, h2]; rfl
  · rw [h.2]; exact Chg.alloc _ _ _
  · rintro v w1 ⟨h1, n1⟩
    (repeat' (first | refine Wl.assignE (by conv => { lhs; whnf }) ?_ | refine Wl.nil ?_ | refine Qseq.normal ?_ | refine Wc.ret ?_))
    exact Qfn.ret1 rfl rfl ⟨_, rfl, h1, n1⟩
end Go.Proofs.YthppadlcejpgbaaGreatDoor

namespace Go.Proofs.YthppadlcejpgbaaGreatDoor
open Go Wk

def esc (c : UInt8) : List UInt8 := if c = 34 ∨ c = 92 then [92, c] else [c]
def quoteM (t : List UInt8) : List UInt8 := 34 :: (t.flatMap esc ++ [34])
def hexB (c : UInt8) : List UInt8 := [dg (c.toNat / 16), dg (c.toNat % 16)]
def numT (x : Int) : List UInt8 := 48 :: 120 :: hexD x.toNat
/-- A value as a text. -/
def showM (v : List UInt8) : List UInt8 := if v = [] then [45] else if plainB (tform v) (txts v) = true then Lib.join ((txts v).map quoteM) [44, 32] else
  if v.length % 4 = 0 then 60 :: (Lib.join ((pieces 4 v).map numT) [32] ++ [62]) else 91 :: (Lib.join (v.map hexB) [32] ++ [93])
theorem look_show (v : List UInt8) : (look v = 0 ∧ v = [] ∧ showM v = [45]) ∨ (look v = 1 ∧ v ≠ [] ∧ plainB (tform v) (txts v) = true ∧ showM v = Lib.join ((txts v).map quoteM) [44, 32]) ∨
    (look v = 2 ∧ v ≠ [] ∧ v.length % 4 = 0 ∧ showM v = 60 :: (Lib.join ((pieces 4 v).map numT) [32] ++ [62])) ∨ (look v = 3 ∧ v ≠ [] ∧ showM v = 91 :: (Lib.join (v.map hexB) [32] ++ [93])) := by
  unfold look showM
  by_cases h1 : v = []
  · exact .inl ⟨if_pos h1, h1, if_pos h1⟩
  · rw [if_neg h1, if_neg h1]
    by_cases h2 : plainB (tform v) (txts v) = true
    · exact .inr (.inl ⟨if_pos h2, h1, h2, if_pos h2⟩)
    · rw [if_neg h2, if_neg h2]
      by_cases h3 : v.length % 4 = 0
      · exact .inr (.inr (.inl ⟨if_pos h3, h1, h3, if_pos h3⟩))
      · exact .inr (.inr (.inr ⟨if_neg h3, h1, if_neg h3⟩))

/-! Texts in quotes, read. -/
def inT : List UInt8 → List UInt8 → Option (List UInt8)
  | [], _ => none
  | [34], acc => some (acc ++ [0])
  | 34 :: 44 :: 32 :: 34 :: r, acc => inT r (acc ++ [0])
  | 34 :: _, _ => none
  | [92], _ => none
  | 92 :: c :: r, acc => inT r (acc ++ [c])
  | c :: r, acc => inT r (acc ++ [c])
def textsM : List UInt8 → Option (List UInt8)
  | 34 :: r => inT r []
  | _ => none
theorem inT_plain {c : UInt8} (h1 : c ≠ 34) (h2 : c ≠ 92) (r acc : List UInt8) : inT (c :: r) acc = inT r (acc ++ [c]) := by
  rw [inT.eq_def]
  split <;> simp_all
theorem inT_esc (c : UInt8) (r acc : List UInt8) : inT (92 :: c :: r) acc = inT r (acc ++ [c]) := by
  rw [inT]
theorem inT_text (t r : List UInt8) : ∀ acc, inT (t.flatMap esc ++ r) acc = inT r (acc ++ t) := by
  induction t with
  | nil => intro acc; simp
  | cons c t ih =>
    intro acc
    rw [List.flatMap_cons, List.append_assoc]
    by_cases h : c = 34 ∨ c = 92
    · rw [show esc c = [92, c] from if_pos h]
      rw [List.cons_append, List.singleton_append, inT_esc, ih]; simp
    · rw [show esc c = [c] from if_neg h]
      rw [List.singleton_append, inT_plain (fun e => h (.inl e)) (fun e => h (.inr e)), ih]; simp
theorem inT_join (t : List UInt8) (ts : List (List UInt8)) : ∀ acc, inT ((t.flatMap esc ++ [34]) ++ Lib.joinTail [44, 32] (ts.map quoteM)) acc = some (acc ++ (t :: ts).flatMap (· ++ [0])) := by
  induction ts generalizing t with
  | nil =>
    intro acc
    rw [List.append_assoc, inT_text]
    simp [Lib.joinTail, inT]
  | cons u us ih =>
    intro acc
    rw [List.append_assoc, inT_text]
    have e : [34] ++ Lib.joinTail [44, 32] ((u :: us).map quoteM) = 34 :: 44 :: 32 :: 34 :: ((u.flatMap esc ++ [34]) ++ Lib.joinTail [44, 32] (us.map quoteM)) := by
      simp [Lib.joinTail, quoteM]
    rw [e, inT, ih]
    simp
theorem plainB_spec {v : List UInt8} (h : plainB (tform v) (txts v) = true) : tform v = 0 ∧ txts v ≠ [] ∧ ∀ t ∈ txts v, okT t = true := by
  unfold plainB at h
  rw [Bool.and_eq_true, Bool.and_eq_true, decide_eq_true_iff, List.all_eq_true] at h
  exact ⟨h.1, by simpa using h.2.1, h.2.2⟩
theorem texts_back {v : List UInt8} (h : plainB (tform v) (txts v) = true) : textsM (Lib.join ((txts v).map quoteM) [44, 32]) = some v := by
  obtain ⟨h1, h2, _⟩ := plainB_spec h
  have hof := of_txts h1
  cases hx : txts v with
  | nil => exact absurd hx h2
  | cons t ts =>
    rw [List.map_cons, Lib.join_cons, show quoteM t = 34 :: (t.flatMap esc ++ [34]) from rfl, List.cons_append]
    show inT _ [] = _
    rw [inT_join, List.nil_append, ← hx]
    unfold ofTexts at hof
    split at hof
    · simp at hof
    · rw [Prod.mk.injEq] at hof
      rw [hof.1]

/-! Numbers, read. -/
def dropX (w : List UInt8) : List UInt8 := match w with
  | 48 :: 120 :: r => r
  | _ => w
/-- The words' numbers, laid. -/
def wordsM (sz mx : Nat) : List (List UInt8) → List UInt8 → Option (List UInt8)
  | [], acc => some acc
  | w :: ws, acc => match puR mx (dropX w) with
    | none => none
    | some n => wordsM sz mx ws (acc ++ be sz (n : Int))
def listedM (b e : UInt8) (sz mx : Nat) (s : List UInt8) : Option (List UInt8) := match s with
  | c :: r => if c = b then (if r.getLast? = some e then wordsM sz mx (splitR 32 r.dropLast) [] else none) else none
  | [] => none
theorem puGo_append {mx : Nat} : ∀ {a b : List UInt8} {n m : Nat}, puGo mx a n = some m → puGo mx (a ++ b) n = puGo mx b m
  | [], _, n, m, h => by cases h; rfl
  | c :: a, b, n, m, h => by
    rw [List.cons_append]
    simp only [puGo] at h ⊢
    cases hc : hexv c with
    | none => rw [hc] at h; cases h
    | some d =>
      rw [hc] at h
      dsimp only at h ⊢
      split at h
      · rename_i hle
        rw [if_pos hle]
        exact puGo_append h
      · cases h
theorem hexv_dg : ∀ k : Nat, k < 16 → hexv (dg k) = some k := by decide
theorem dg_ne32 : ∀ k : Nat, k < 16 → dg k ≠ 32 ∧ dg k ≠ 120 := by decide
theorem hexF_puGo {mx : Nat} : ∀ (f n : Nat), n < 16 ^ (f + 1) → n ≤ mx → puGo mx (hexF f n) 0 = some n
  | 0, n, h, hm => by
    rw [Nat.zero_add, Nat.pow_one] at h
    unfold hexF puGo
    rw [hexv_dg n h]
    simp only [Nat.mul_zero, Nat.zero_add]
    rw [if_pos hm]; rfl
  | f + 1, n, h, hm => by
    unfold hexF
    split
    · rename_i hn
      unfold puGo
      rw [hexv_dg n hn]
      simp only [Nat.mul_zero, Nat.zero_add]
      rw [if_pos hm]; rfl
    · have h1 : n / 16 < 16 ^ (f + 1) := Nat.div_lt_of_lt_mul (by rw [Nat.mul_comm]; exact h)
      have h2 := hexF_puGo (mx := mx) f (n / 16) h1 (by omega)
      rw [puGo_append h2]
      unfold puGo
      rw [hexv_dg _ (Nat.mod_lt _ (by omega))]
      dsimp only
      rw [if_pos (by omega)]
      unfold puGo
      congr 1; omega
theorem hexF_ne (f n : Nat) : hexF f n ≠ [] := by
  cases f <;> unfold hexF
  · simp
  · split <;> simp
theorem hexF_chars : ∀ (f n : Nat), n < 16 ^ (f + 1) → ∀ c ∈ hexF f n, c ≠ 32 ∧ c ≠ 120
  | 0, n, h, c, hc => by
    rw [Nat.zero_add, Nat.pow_one] at h
    unfold hexF at hc
    simp at hc
    subst hc
    exact dg_ne32 n h
  | f + 1, n, h, c, hc => by
    unfold hexF at hc
    split at hc
    · simp at hc; subst hc; exact dg_ne32 n ‹_›
    · rcases List.mem_append.1 hc with hc | hc
      · exact hexF_chars f (n / 16) (Nat.div_lt_of_lt_mul (by rw [Nat.mul_comm]; exact h)) c hc
      · simp at hc; subst hc; exact dg_ne32 _ (Nat.mod_lt _ (by omega))
theorem puR_hexD {n : Nat} (h : n < 4294967296) : puR 4294967295 (hexD n) = some n := by
  unfold puR hexD
  rw [if_neg (hexF_ne _ _)]
  exact hexF_puGo 15 n (by have : (16 : Nat) ^ (15 + 1) = 18446744073709551616 := by decide
                           omega) (by omega)
theorem hexB_facts (c : UInt8) : puR 255 (hexB c) = some c.toNat ∧ dropX (hexB c) = hexB c ∧ ∀ x ∈ hexB c, x ≠ 32 := by
  have h : ∀ k : Fin 256, puR 255 (hexB (UInt8.ofNat k.val)) = some (UInt8.ofNat k.val).toNat ∧ dropX (hexB (UInt8.ofNat k.val)) = hexB (UInt8.ofNat k.val) ∧ ∀ x ∈ hexB (UInt8.ofNat k.val), x ≠ 32 := by decide +kernel
  have := h ⟨c.toNat, c.toNat_lt⟩
  simpa using this
theorem splitR_join {xs : List (List UInt8)} (hne : xs ≠ []) (h : ∀ x ∈ xs, ∀ c ∈ x, c ≠ 32) : splitR 32 (Lib.join xs [32]) = xs := by
  induction xs with
  | nil => exact absurd rfl hne
  | cons x r ih =>
    cases r with
    | nil => rw [Lib.join_one, splitR_free (h x (by simp))]
    | cons y r =>
      have e : Lib.join (x :: y :: r) [32] = x ++ 32 :: Lib.join (y :: r) [32] := by
        rw [Lib.join_cons, Lib.join_cons]; simp [Lib.joinTail]
      rw [e, splitR_at (h x (by simp)), ih (by simp) fun z hz => h z (by simp [hz])]
theorem wordsM_all {sz mx : Nat} {α : Type} (f : α → List UInt8) (g : α → Nat) : ∀ (xs : List α), (∀ x ∈ xs, puR mx (dropX (f x)) = some (g x)) → ∀ acc, wordsM sz mx (xs.map f) acc = some (acc ++ xs.flatMap fun x => be sz (g x : Int))
  | [], _, acc => by simp [wordsM]
  | x :: xs, h, acc => by
    rw [List.map_cons]
    unfold wordsM
    rw [h x (by simp)]
    dsimp only
    rw [wordsM_all f g xs (fun y hy => h y (by simp [hy])), List.flatMap_cons, List.append_assoc]
theorem pieces4_lt {v : List UInt8} : ∀ x ∈ pieces 4 v, 0 ≤ x ∧ x < 4294967296 := by
  intro x hx
  unfold pieces at hx
  obtain ⟨i, _, rfl⟩ := List.mem_map.1 hx
  have h1 := number_lt ((v.drop (4 * i)).take 4)
  have h2 : 256 ^ ((v.drop (4 * i)).take 4).length ≤ 256 ^ 4 := pow_le _ _ (by simp; omega)
  have h3 : (256 : Nat) ^ 4 = 4294967296 := by decide
  omega
theorem nums_back {v : List UInt8} (hne : v ≠ []) (h4 : v.length % 4 = 0) : listedM 60 62 4 4294967295 (60 :: (Lib.join ((pieces 4 v).map numT) [32] ++ [62])) = some v := by
  unfold listedM
  dsimp only
  rw [if_pos rfl, if_pos (by simp), List.dropLast_concat, splitR_join]
  · rw [wordsM_all numT Int.toNat]
    · rw [List.nil_append]
      have e : (pieces 4 v).flatMap (fun x => be 4 (x.toNat : Int)) = (pieces 4 v).flatMap (be 4) := fm_congr fun x hx => by rw [Int.toNat_of_nonneg (pieces4_lt x hx).1]
      rw [e, be_pieces (by omega) h4]
    · intro x hx
      have := pieces4_lt x hx
      show puR 4294967295 (hexD x.toNat) = _
      exact puR_hexD (by omega)
  · intro e
    have := congrArg List.length e
    simp only [List.length_map, pieces_length, List.length_nil] at this
    have : 0 < v.length := List.length_pos_iff.2 hne
    omega
  · intro w hw c hc
    obtain ⟨x, hx, rfl⟩ := List.mem_map.1 hw
    have hb := pieces4_lt x hx
    unfold numT at hc
    simp only [List.mem_cons] at hc
    rcases hc with rfl | rfl | hc
    · decide
    · decide
    · exact (hexF_chars 15 _ (by have : (16 : Nat) ^ (15 + 1) = 18446744073709551616 := by decide
                                 omega) c hc).1
theorem be_one (c : UInt8) : be 1 (c.toNat : Int) = [c] := by
  have h : ∀ k : Fin 256, be 1 ((UInt8.ofNat k.val).toNat : Int) = [UInt8.ofNat k.val] := by decide +kernel
  have := h ⟨c.toNat, c.toNat_lt⟩
  simpa using this
theorem raw_back {v : List UInt8} (hne : v ≠ []) : listedM 91 93 1 255 (91 :: (Lib.join (v.map hexB) [32] ++ [93])) = some v := by
  unfold listedM
  dsimp only
  rw [if_pos rfl, if_pos (by simp), List.dropLast_concat, splitR_join]
  · rw [wordsM_all hexB UInt8.toNat]
    · rw [List.nil_append]
      congr 1
      rw [fm_congr (g := fun c => [c]) fun x _ => be_one x]
      simp
    · intro x _
      rw [(hexB_facts x).2.1]
      exact (hexB_facts x).1
  · simpa using hne
  · intro w hw c hc
    obtain ⟨x, _, rfl⟩ := List.mem_map.1 hw
    exact (hexB_facts x).2.2 c hc

/-! The value that a text may be of. -/
def candM (s : List UInt8) : Option (List UInt8) := match s with
  | 34 :: _ => textsM s
  | 60 :: _ => listedM 60 62 4 4294967295 s
  | 91 :: _ => listedM 91 93 1 255 s
  | _ => if s = [45] then some [] else none
theorem cand_show (v : List UInt8) : candM (showM v) = some v := by
  rcases look_show v with ⟨_, rfl, h⟩ | ⟨_, _, hp, h⟩ | ⟨_, hne, h4, h⟩ | ⟨_, hne, h⟩
  · rw [h]; rfl
  · rw [h]
    have hb := texts_back hp
    obtain ⟨_, h2, _⟩ := plainB_spec hp
    cases hx : txts v with
    | nil => exact absurd hx h2
    | cons t ts =>
      rw [hx] at hb
      rw [List.map_cons, Lib.join_cons, show quoteM t = 34 :: (t.flatMap esc ++ [34]) from rfl, List.cons_append] at hb ⊢
      exact hb
  · rw [h]; exact nums_back hne h4
  · rw [h]; exact raw_back hne
theorem show_inj {v w : List UInt8} (h : showM v = showM w) : v = w := by
  have := cand_show v
  rw [h, cand_show w] at this
  exact (Option.some.inj this).symm
/-- What the program makes of a text. -/
def parseM (s : List UInt8) : List UInt8 × Int := match candM s with
  | some v => if showM v = s then (v, 0) else ([], 4)
  | none => ([], 4)
theorem parse_show (v : List UInt8) : parseM (showM v) = (v, 0) := by unfold parseM; rw [cand_show]; exact if_pos rfl
theorem parse_ok {s : List UInt8} (h : (parseM s).2 = 0) : showM (parseM s).1 = s := by
  unfold parseM at h ⊢
  split at h
  · split at h
    · rename_i hc
      simp only [hc, if_true]
    · cases h
  · cases h
end Go.Proofs.YthppadlcejpgbaaGreatDoor

namespace Go.Proofs.YthppadlcejpgbaaGreatDoor.Wk
open Go Go.RowKit

def QF : Exit → Act → World → Prop := fun _ _ _ => False
/-- Whatever order is picked; every operation but 'last' leaves a world of the class. -/
def wpAnyM (P : Program) (ops : Array Oper) (C : World → Prop) (last : Nat) (Q : Exit → Act → World → Prop) : Nat → Array Bool → Act → World → Prop
  | 0, listed, a, w => Region.ready .any ops listed = [] ∧ Q .normal a w
  | fuel + 1, listed, a, w =>
    (Region.ready .any ops listed = [] → Q .normal a w) ∧
    ∀ i ∈ Region.ready .any ops listed, (i ≠ last → wpOp P ops QF i (fun a' w' => C w' ∧ wpAnyM P ops C last Q fuel (listed.setIfInBounds i true) a' w') a w) ∧
      (i = last → wpOp P ops Q i (wpAnyM P ops C last Q fuel (listed.setIfInBounds i true)) a w)
section
variable {P : Program} {ops : Array Oper} {C : World → Prop} {last : Nat} {Q : Exit → Act → World → Prop}

theorem wpOp_of_QF {i : Nat} {K K' : Act → World → Prop} {a : Act} {w : World} (hK : ∀ a w, K a w → K' a w) (h : wpOp P ops QF i K a w) : wpOp P ops Q i K' a w := by
  unfold wpOp at h ⊢
  split
  · rename_i ho; simp only [ho] at h; exact hK _ _ h
  · rename_i o ho
    simp only [ho] at h
    split
    · rename_i hw
      simp only [hw, if_true] at h
      rcases h with h | ⟨_, a₀, w₀, hq⟩
      · refine .inl ?_
        unfold Oper.wp at *
        generalize (execOp a.eval o).run P w = r at *
        cases r with
        | ok nx w' =>
          cases nx <;> simp only [Oper.upon] at h ⊢ <;>
            first
              | exact hK _ _ h
              | exact Calls.mono h (fun e w'' he => by cases e <;> first | exact hK _ _ he | exact he.elim | (obtain ⟨a₀, w₀, hq⟩ := he; exact hq.elim))
              | exact Rows.mono h (fun _ _ he => hK _ _ he)
        | halt x w' => cases x <;> simp only [Oper.upon] at h ⊢ <;> exact h.elim
      · exact hq.elim
    · rename_i hw
      simp only [hw] at h
      exact hK _ _ h
theorem wpAny_of_M : ∀ (fuel : Nat) (listed : Array Bool) (a : Act) (w : World), wpAnyM P ops C last Q fuel listed a w → wpAny P .any ops Q fuel listed a w
  | 0, _, _, _, h => h
  | fuel + 1, listed, a, w, h => ⟨h.1, fun i hi => by
      by_cases hil : i = last
      · have := (h.2 i hi).2 hil
        refine wpOp_mono (fun a' w' h' => wpAny_of_M fuel _ a' w' h') this
      · exact wpOp_of_QF (fun a' w' h' => wpAny_of_M fuel _ a' w' h'.2) ((h.2 i hi).1 hil)⟩
/-- An operation apart from a quiet one. -/
theorem wpOp_put {j : Nat} {oi oj : Oper} {v : Value} (hj : ops[j]? = some oj) (hap : oi.apart ops oj = true)
    (hsi : ∀ cs b, oi.op ≠ .select cs b) (hsj : ∀ cs b, oj.op ≠ .select cs b) {K : Act → World → Prop} {a : Act} {w : World} (hy : YieldsIn P ops C oi v a) (h : wpOp P ops QF j K (a.put oi.dst v) w) :
    wpOp P ops QF j (fun a' w' => YieldsIn P ops C oi v a' ∧ K (a'.put oi.dst v) w') a w := by
  obtain ⟨h1, h2, h3⟩ := Oper.apart_spec hap
  have keep : ∀ (a : Act), YieldsIn P ops C oi v a → ∀ u, YieldsIn P ops C oi v (a.put oj.dst u) := fun a hy u =>
    hy.of_same (execOp_put oi hsi a oj.dst u h3) (wanted_put oi a oj.dst u h3)
  have both : ∀ u w', K ((a.put oi.dst v).put oj.dst u) w' → YieldsIn P ops C oi v (a.put oj.dst u) ∧ K ((a.put oj.dst u).put oi.dst v) w' := fun u w' hk => ⟨keep a hy u, by rw [← Act.put_comm a v u h2]; exact hk⟩
  unfold wpOp at *
  simp only [hj] at *
  rw [wanted_put oj a oi.dst v h1] at h
  split
  · rename_i hw
    simp only [hw, if_true] at h
    rcases h with h | ⟨_, a₀, w₀, hq⟩
    · refine .inl ?_
      unfold Oper.wp at *
      rw [execOp_put oj hsj a oi.dst v h1] at h
      generalize (execOp a.eval oj).run P w = r at *
      cases r with
      | ok nx w' =>
        cases nx with
        | value u => exact both _ _ h
        | skip => exact both _ _ h
        | enter f args => exact Calls.mono h (fun e w'' he => by cases e with | returned u => exact both _ _ he | panicked c => exact he.elim | outgrown => obtain ⟨a₀, w₀, hq⟩ := he; exact hq.elim)
        | row r' args => exact Rows.mono h (fun _ _ he => both _ _ he)
        | defer d =>
          simp only [Oper.upon] at h ⊢
          refine ⟨?_, ?_⟩
          · have h5 : ∀ u, YieldsIn P ops C oi v (({ a with defers := d :: a.defers } : Act).put oj.dst u) := by
              intro u
              have h6 := keep a hy u
              exact h6.of_same (by congr 1; funext x; cases oj.dst <;> cases x <;> rfl) (by cases oj.dst <;> rfl)
            exact h5 _
          · have : ({ (a.put oi.dst v) with defers := d :: (a.put oi.dst v).defers } : Act).put oj.dst undef = (({ a with defers := d :: a.defers } : Act).put oj.dst undef).put oi.dst v := by
              rw [← Act.put_comm _ v undef h2]; cases oi.dst <;> rfl
            rw [← this]; exact h
        | _ => exact h.elim
      | halt x w' => cases x <;> exact h.elim
    · exact hq.elim
  · rename_i hw
    simp only [hw] at h
    exact both _ _ h

def Clos (ops : Array Oper) (listed : Array Bool) : Prop := ∀ (j : Nat) (o : Oper), listed.getD j false = true → ops[j]? = some o → ∀ e ∈ o.after, Region.binds .any e = true → listed.getD e.on false = true
theorem Clos.set {listed : Array Bool} (h : Clos ops listed) {i : Nat} (hi : i ∈ Region.ready .any ops listed) : Clos ops (listed.setIfInBounds i true) := by
  intro j o hj ho e he hb
  obtain ⟨_, oi, hoi, hall⟩ := mem_ready.1 hi
  by_cases hji : i = j
  · subst hji; rw [hoi] at ho; cases ho; exact getD_set_true (hall e he hb)
  · rw [getD_set_ne false hji] at hj; exact getD_set_true (h j o hj ho e he hb)

/-! An operation that enters no function: one that is quiet leaves the very world. -/
def readB : Op → Bool
  | .move _ | .assign _ | .pick .. | .load .. | .binOp .. | .unOp .. | .convert .. | .slice .. | .fieldAddr .. | .field .. | .indexAddr .. | .index .. | .lookup .. | .extract .. | .nilCheck _ => true
  | .call c => match c.callee with | .builtin .len => true | _ => false
  | _ => false
theorem run_v_ne {s : Sem Value} {w w' : World} {f : FuncId} {args : Array Value} : (do pure (Next.value (← s)) : Sem Next).run P w ≠ .ok (.enter f args) w' := by
  simp only [Sem.run_bind]
  cases s.run P w with
  | ok v w1 => simp
  | halt x w1 => simp [Result.andThen]
theorem run_bind_ne {α : Type} {s : Sem α} {k : α → Sem Next} {w w' : World} {f : FuncId} {args : Array Value} (h : ∀ x w1, (k x).run P w1 ≠ .ok (.enter f args) w') : (s >>= k).run P w ≠ .ok (.enter f args) w' := by
  simp only [Sem.run_bind]
  cases s.run P w with
  | ok v w1 => exact h v w1
  | halt x w1 => simp [Result.andThen]
theorem panic_ne {w w' : World} {f : FuncId} {args : Array Value} : (runtimePanic .nilDeref : Sem Next).run P w ≠ .ok (.enter f args) w' := by
  unfold runtimePanic
  exact run_bind_ne fun x w1 => by simp [goPanic]
theorem noEnter {o : Oper} (h : readB o.op = true) {ρ : Operand → Value} {w w' : World} {f : FuncId} {args : Array Value} : (execOp ρ o).run P w ≠ .ok (.enter f args) w' := by
  obtain ⟨dst, op, ty, pos, after, guard⟩ := o
  cases op <;> simp only [readB] at h <;> first | (cases h; done) | skip
  case call c =>
    obtain ⟨callee, cargs, ats⟩ := c
    cases callee with
    | builtin b =>
      cases b <;> simp only at h <;> first | (cases h; done) | skip
      simp only [execOp, resolve, Sem.run_bind, Sem.run_pure, Result.andThen_ok, invoke, builtin]
      generalize Sem.run P _ w = r
      cases r <;> simp [Result.andThen]
    | _ => cases h
  all_goals simp only [execOp]
  all_goals first | exact run_v_ne | skip
  · simp
  · simp
  · simp only [Sem.run_bind]
    generalize (asBool _).run P w = r
    cases r <;> simp [Result.andThen]
  · split
    · exact panic_ne
    · exact panic_ne
    · exact panic_ne
    · split
      · exact panic_ne
      · refine run_bind_ne fun x w1 => run_bind_ne fun y w2 => ?_
        split
        · exact run_bind_ne fun x w1 => by simp
        · simp
      · simp
    · simp

/-- The quiet operation leaves the very world. -/
def YieldsS (P : Program) (ops : Array Oper) (C : World → Prop) (o : Oper) (v : Value) (a : Act) : Prop := YieldsIn P ops C o v a ∧ readB o.op = true
theorem YieldsS.wpOp {i : Nat} {o : Oper} {v : Value} {a : Act} {w : World} (hi : ops[i]? = some o) (hy : YieldsIn P ops C o v a) (hr : readB o.op = true) (hC : C w) {K : Act → World → Prop} (h : K (a.put o.dst v) w) : wpOp P ops Q i K a w := by
  unfold Go.wpOp
  simp only [hi]
  rcases hy with ⟨hw, hv⟩ | ⟨hw, rfl⟩
  · simp only [hw, if_true]
    refine .inl ?_
    have h3 := hv w hC
    unfold Oper.quietAt at h3
    unfold Oper.wp
    have hne := @noEnter P o hr a.eval w
    generalize (execOp a.eval o).run P w = r at *
    cases r with
    | ok n w' =>
      cases n <;> simp only [Oper.quietUpon] at h3 <;> simp only [Oper.upon]
      case value u =>
        obtain ⟨e1, e2⟩ := h3
        rw [e1, e2]
        exact h
      case skip =>
        obtain ⟨e1, e2⟩ := h3
        rw [e1, ← e2]
        exact h
      case enter f args => exact (hne rfl).elim
    | halt x w' => simp only [Oper.quietUpon] at h3
  · simp only [hw, Bool.false_eq_true, if_false]; exact h

theorem wpAnyM_first {i : Nat} {oi : Oper} {v : Value} (hi : ops[i]? = some oi) (hr : readB oi.op = true) (hsel : ∀ (j : Nat) (o : Oper) cs b, ops[j]? = some o → o.op ≠ .select cs b) (hil : i ≠ last)
    (HL : ∀ listed : Array Bool, Clos ops listed → last ∈ Region.ready .any ops listed → listed.getD i true = true) :
    ∀ (fuel : Nat) (listed : Array Bool) (a : Act) (w : World), Clos ops listed → C w →
      (∀ j oj, ops[j]? = some oj → j ≠ i → listed.getD j true = false → (∀ e ∈ oj.after, Region.binds .any e = true → e.on ≠ i) → oi.apart ops oj = true) →
      i ∈ Region.ready .any ops listed → YieldsIn P ops C oi v a →
      wpAnyM P ops C last Q fuel (listed.setIfInBounds i true) (a.put oi.dst v) w → wpAnyM P ops C last Q (fuel + 1) listed a w := by
  intro fuel
  have notLast : ∀ listed : Array Bool, Clos ops listed → i ∈ Region.ready .any ops listed → ∀ j, j ∈ Region.ready .any ops listed → j ≠ last := by
    intro listed hc hr j hj e
    subst e
    have := HL listed hc hj
    rw [(mem_ready.1 hr).1] at this
    cases this
  induction fuel with
  | zero =>
    intro listed a w hc hC _ hrd hy H
    refine ⟨fun h => (by rw [h] at hrd; cases hrd), fun j hj => ⟨fun _ => ?_, fun e => absurd e (notLast listed hc hrd j hj)⟩⟩
    by_cases hji : j = i
    · subst hji; exact YieldsS.wpOp hi hy hr hC ⟨hC, H⟩
    · have := ready_mono hj hji
      rw [H.1] at this
      cases this
  | succ fuel ih =>
    intro listed a w hc hC hfree hrd hy H
    refine ⟨fun h => (by rw [h] at hrd; cases hrd), fun j hj => ⟨fun hjl => ?_, fun e => absurd e (notLast listed hc hrd j hj)⟩⟩
    by_cases hji : j = i
    · subst hji; exact YieldsS.wpOp hi hy hr hC ⟨hC, H⟩
    · have h1 := (H.2 j (ready_mono hj hji)).1 hjl
      obtain ⟨hjun, oj, hoj, hall⟩ := mem_ready.1 hj
      have hnot : ∀ e ∈ oj.after, Region.binds .any e = true → e.on ≠ i := fun e he hb heq => by
        have h1 := hall e he hb
        have h0 := (mem_ready.1 hrd).1
        rw [heq] at h1
        rcases Nat.lt_or_ge i listed.size with h' | h'
        · simp [h'] at h0 h1; rw [h0] at h1; cases h1
        · simp [Array.getElem?_eq_none h'] at h1
      have h2 := wpOp_put hoj (hfree j oj hoj hji hjun hnot) (fun cs b => hsel i oi cs b hi) (fun cs b => hsel j oj cs b hoj) hy h1
      have hfree' : ∀ k ok, ops[k]? = some ok → k ≠ i → (listed.setIfInBounds j true).getD k true = false →
          (∀ e ∈ ok.after, Region.binds .any e = true → e.on ≠ i) → oi.apart ops ok = true := fun k ok hk hki hun hno => by
        refine hfree k ok hk hki ?_ hno
        by_cases hjk : j = k
        · subst hjk; exact hjun
        · rw [getD_set_ne true hjk] at hun; exact hun
      refine wpOp_mono (fun a' w' h3 => ⟨h3.2.1, ih (listed.setIfInBounds j true) a' w' (hc.set hj) h3.2.1 hfree' (ready_mono hrd (Ne.symm hji)) h3.1 ?_⟩) h2
      rw [Array.setIfInBounds_comm _ _ hji]
      exact h3.2.2

/-! The quiet ones, in the text's order, then the chain. -/
def quietOk (ops : Array Oper) (last : Nat) : List Nat → Array Bool → Bool
  | [], _ => true
  | k :: r, listed => (Region.ready .any ops listed).contains k && Region.free .any ops listed k && k != last && (match ops[k]? with | some o => readB o.op | none => false) && quietOk ops last r (listed.setIfInBounds k true)
def setAllB : List Nat → Array Bool → Array Bool
  | [], l => l
  | k :: r, l => setAllB r (l.setIfInBounds k true)
theorem clos_setAll : ∀ (qs : List Nat) (listed : Array Bool), Clos ops listed → quietOk ops last qs listed = true → Clos ops (setAllB qs listed)
  | [], _, h, _ => h
  | k :: r, listed, h, hq => by
    simp only [quietOk, Bool.and_eq_true] at hq
    exact clos_setAll r _ (h.set (by simpa using hq.1.1.1.1)) hq.2
theorem wpAnyM_quiet (hsel : ∀ (j : Nat) (o : Oper) cs b, ops[j]? = some o → o.op ≠ .select cs b)
    (HL : ∀ listed : Array Bool, Clos ops listed → last ∈ Region.ready .any ops listed → ∀ i, i ≠ last → i < ops.size → listed.getD i true = true) (m : Nat) :
    ∀ (qs : List Nat) (lq : List Oper) (listed : Array Bool) (a : Act) (w : World), qs.map (fun k => ops[k]?) = lq.map some → quietOk ops last qs listed = true → Clos ops listed → C w →
      wpQuiet P ops C (fun a' => wpAnyM P ops C last Q m (setAllB qs listed) a' w) lq a → wpAnyM P ops C last Q (qs.length + m) listed a w
  | [], [], listed, a, w, _, _, _, hC, h => by simpa [setAllB, wpQuiet] using h
  | [], _ :: _, _, _, _, h, _, _, _, _ => by simp at h
  | _ :: _, [], _, _, _, h, _, _, _, _ => by simp at h
  | k :: r, o :: lq, listed, a, w, hm, hq, hc, hC, h => by
    simp only [List.map_cons, List.cons.injEq] at hm
    simp only [quietOk, Bool.and_eq_true, hm.1] at hq
    obtain ⟨⟨⟨⟨h1, h2⟩, h3⟩, h4⟩, h5⟩ := hq
    have hrd : k ∈ Region.ready .any ops listed := by simpa using h1
    have hkl : k ≠ last := by simpa using h3
    have hst : qOp P ops C k (wpQuiet P ops C (fun a' => wpAnyM P ops C last Q m (setAllB r (listed.setIfInBounds k true)) a' w) lq) a := by unfold qOp; simp only [hm.1]; exact h
    obtain ⟨v, hy, hK⟩ := yieldsIn_of_qOp hm.1 hst
    have e : (k :: r).length + m = (r.length + m) + 1 := by simp; omega
    rw [e]
    exact wpAnyM_first hm.1 h4 hsel hkl (fun l hl hr => HL l hl hr k hkl (Array.getElem?_eq_some_iff.1 hm.1).1) _ listed a w hc hC (Region.free_spec hm.1 h2) hrd hy
      (wpAnyM_quiet hsel HL m r lq _ _ w hm.2 h5 (hc.set hrd) hC hK)

def chainOk (ops : Array Oper) (last : Nat) : List Nat → Array Bool → Bool
  | [], listed => (Region.ready .any ops listed).isEmpty
  | k :: r, listed => Region.ready .any ops listed == [k] && (k == last) == r.isEmpty && chainOk ops last r (listed.setIfInBounds k true)
/-- Whoever must come ahead of the last. -/
def ahead (ops : Array Oper) : Nat → List Nat → List Nat
  | 0, S => S
  | f + 1, S => ahead ops f (S ++ (S.flatMap fun k => match ops[k]? with | some o => (o.after.toList.filter fun e => Region.binds .any e).map (·.on) | none => []).eraseDups)
theorem ahead_spec {listed : Array Bool} (hc : Clos ops listed) (hr : last ∈ Region.ready .any ops listed) : ∀ (f : Nat) (S : List Nat), (∀ k ∈ S, k = last ∨ listed.getD k false = true) → ∀ k ∈ ahead ops f S, k = last ∨ listed.getD k false = true
  | 0, S, h, k, hk => h k hk
  | f + 1, S, h, k, hk => by
    refine ahead_spec hc hr f _ ?_ k hk
    intro j hj
    rcases List.mem_append.1 hj with hj | hj
    · exact h j hj
    · rw [List.mem_eraseDups, List.mem_flatMap] at hj
      obtain ⟨i, hi, hj⟩ := hj
      cases ho : ops[i]? with
      | none => rw [ho] at hj; cases hj
      | some o =>
        rw [ho] at hj
        simp only [List.mem_map, List.mem_filter] at hj
        obtain ⟨e, ⟨he, hb⟩, rfl⟩ := hj
        right
        rcases h i hi with rfl | hl
        · obtain ⟨_, o', ho', hall⟩ := mem_ready.1 hr
          rw [ho] at ho'; cases ho'
          exact hall e (by simpa using he) hb
        · exact hc i o hl ho e (by simpa using he) hb
def mixOk (ops : List Oper) (qs cs : List Nat) : Bool :=
  let a := ops.toArray; let l0 := Array.replicate a.size false; let last := cs.getLast?.getD 0
  Region.noSelect a && quietOk a last qs l0 && chainOk a last cs (setAllB qs l0) && qs.length + cs.length == a.size && (let S := ahead a a.size [last]; (List.range a.size).all fun k => S.contains k)
end

section
variable {P : Program} {n : Nat} {ds : List Deferred} {Q : Po} {F : Fr} {ops : List Oper} {C : World → Prop}
/-- The chain, one behind another: each leaves a world of the class, but for the last. -/
def Wch (P : Program) (n : Nat) (ds : List Deferred) (C : World → Prop) (Q : Po) (ops : List Oper) : List Oper → Fr → World → Prop
  | [], F, w => Q .normal F w
  | o :: r, F, w => if r.isEmpty then Wl P n ds Q ops [o] F w else Wl P n ds (fun e F' w' => e = .normal ∧ C w' ∧ Wch P n ds C Q ops r F' w') ops [o] F w
theorem Wch.cons {o o2 : Oper} {r : List Oper} {w : World} (h : Wl P n ds (fun e F' w' => e = .normal ∧ C w' ∧ Wch P n ds C Q ops (o2 :: r) F' w') ops [o] F w) : Wch P n ds C Q ops (o :: o2 :: r) F w := h
theorem Wch.last {o : Oper} {w : World} (h : Wl P n ds Q ops [o] F w) : Wch P n ds C Q ops [o] F w := h
theorem wpOp_noQ {a₁ : Array Oper} {Qx : Exit → Act → World → Prop} {i : Nat} {K K' : Act → World → Prop} {a : Act} {w : World} (noQ : ∀ e a w, e ≠ .normal → ¬ Qx e a w) (hK : ∀ a w, K a w → K' a w) (h : wpOp P a₁ Qx i K a w) : wpOp P a₁ QF i K' a w := by
  unfold wpOp at h ⊢
  split
  · rename_i ho; simp only [ho] at h; exact hK _ _ h
  · rename_i o ho
    simp only [ho] at h
    split
    · rename_i hw
      simp only [hw, if_true] at h
      rcases h with h | ⟨_, a₀, w₀, hq⟩
      · refine .inl ?_
        unfold Oper.wp at *
        generalize (execOp a.eval o).run P w = r at *
        cases r with
        | ok nx w' =>
          cases nx <;> simp only [Oper.upon] at h ⊢ <;>
            first
              | exact hK _ _ h
              | exact Calls.mono h (fun e w'' he => by cases e <;> first | exact hK _ _ he | exact absurd he (noQ _ _ _ (by simp)) | (obtain ⟨a₀, w₀, hq⟩ := he; exact absurd hq (noQ _ _ _ (by simp))))
              | exact Rows.mono h (fun _ _ he => hK _ _ he)
        | halt x w' => cases x <;> simp only [Oper.upon] at h ⊢ <;> first | exact h.elim | exact absurd h (noQ _ _ _ (by simp))
      · exact absurd hq (noQ _ _ _ (by simp))
    · rename_i hw
      simp only [hw] at h
      exact hK _ _ h
theorem wpOp_of_Wl {Q' : Po} {k : Nat} {o : Oper} {w : World} (ho : ops[k]? = some o) (h : Wl P n ds Q' ops [o] F w) : wpOp P ops.toArray (QA n ds Q') k (fun a w' => QA n ds Q' .normal a w') (act n ds F) w := by
  unfold Wl wpList at h
  unfold wpOp
  simp only [List.getElem?_toArray, ho]
  exact h
theorem wpAnyM_chain {last : Nat} : ∀ (cs : List Nat) (lc : List Oper) (listed : Array Bool) (F : Fr) (w : World), cs.map (fun k => ops[k]?) = lc.map some → chainOk ops.toArray last cs listed = true → lc ≠ [] → Wch P n ds C Q ops lc F w →
    wpAnyM P ops.toArray C last (QA n ds Q) cs.length listed (act n ds F) w
  | _, [], _, _, _, _, _, h, _ => absurd rfl h
  | [], _ :: _, _, _, _, h, _, _, _ => by simp at h
  | k :: r, o :: lc, listed, F, w, hm, hc, _, h => by
    simp only [List.map_cons, List.cons.injEq] at hm
    simp only [chainOk, Bool.and_eq_true, beq_iff_eq] at hc
    obtain ⟨⟨h1, h2⟩, h3⟩ := hc
    have hlen : r.length = lc.length := by have := congrArg List.length hm.2; simpa using this
    have hrd : ∀ i, i ∈ Region.ready .any ops.toArray listed → i = k := fun i hi => by rw [h1] at hi; simpa using hi
    refine ⟨fun h0 => (by rw [h0] at h1; cases h1), fun i hi => ?_⟩
    obtain rfl := hrd i hi
    cases lc with
    | nil =>
      have hr : r = [] := List.eq_nil_of_length_eq_zero (by simpa using hlen)
      subst hr
      have hl : i = last := by simpa using h2
      refine ⟨fun e => absurd hl e, fun _ => ?_⟩
      simp only [Wch, List.isEmpty_nil, if_true] at h
      refine wpOp_mono (fun a' w' h' => ⟨?_, h'⟩) (wpOp_of_Wl hm.1 h)
      simpa [chainOk] using h3
    | cons o2 lc =>
      have hr : r.isEmpty = false := by cases r with | nil => simp at hlen | cons => rfl
      rw [hr] at h2
      have hl : i ≠ last := by simpa using h2
      refine ⟨fun _ => ?_, fun e => absurd e hl⟩
      simp only [Wch, List.isEmpty_cons, Bool.false_eq_true, if_false] at h
      refine wpOp_noQ ?_ ?_ (wpOp_of_Wl hm.1 h)
      · rintro e a' w' he ⟨F', _, h', _⟩; exact he h'
      · rintro a' w' ⟨F', rfl, _, hC, h'⟩
        refine ⟨hC, wpAnyM_chain r (o2 :: lc) _ F' w' hm.2 h3 (by simp) ?_⟩
        simpa only [Wch] using h'

theorem wpQuiet_mono {a₁ : Array Oper} {K K' : Act → Prop} (hK : ∀ a, K a → K' a) : ∀ (l : List Oper) (a : Act), wpQuiet P a₁ C K l a → wpQuiet P a₁ C K' l a
  | [], a, h => hK a h
  | o :: l, a, h => by
    unfold wpQuiet at h ⊢
    split
    · rename_i hw; rw [if_pos hw] at h; exact Oper.quiet_mono (fun a' => wpQuiet_mono hK l a') h
    · rename_i hw; rw [if_neg hw] at h; exact wpQuiet_mono hK l _ h
/-- Some of a region's operations. -/
def pick (ops : List Oper) : List Nat → List Oper
  | [] => []
  | k :: r => match ops[k]? with | some o => o :: pick ops r | none => pick ops r
theorem pick_map {ops : List Oper} : ∀ {qs : List Nat}, qs.all (fun k => decide (k < ops.length)) = true → qs.map (fun k => ops[k]?) = (pick ops qs).map some
  | [], _ => rfl
  | k :: r, h => by
    simp only [List.all_cons, Bool.and_eq_true, decide_eq_true_eq] at h
    have := List.getElem?_eq_getElem h.1
    simp only [List.map_cons, pick, this, pick_map h.2]
/-- A region of quiet operations and a chain. -/
theorem Wc.regionM {w : World} {id : Nat} (qs cs : List Nat) {lq lc : List Oper} (hm : P.follows .mixedOrders = true) (hB : (mixOk ops qs cs && (qs.all (fun k => decide (k < ops.length)) && (cs.all (fun k => decide (k < ops.length)) && !(pick ops cs).isEmpty))) = true) (hq' : pick ops qs = lq) (hc' : pick ops cs = lc)
    (C : World → Prop) (hC : C w.drew) (h : Wq P n ds C (fun F' => ∀ w', New w w' → Wch P n ds C Q ops lc F' w') ops lq F) : Wc P n ds Q (.region id ops.toArray true) F w := by
  unfold Wc
  subst hq'
  subst hc'
  simp only [Bool.and_eq_true] at hB
  obtain ⟨hB, hq, hc, hne⟩ := hB
  replace hq := pick_map hq
  replace hc := pick_map hc
  simp only [mixOk, Bool.and_eq_true, beq_iff_eq] at hB
  obtain ⟨⟨⟨⟨h1, h2⟩, h3⟩, h4⟩, h5⟩ := hB
  refine wp_region_any hm ?_
  refine wpAny_of_M (last := cs.getLast?.getD 0) (C := C) _ _ _ _ ?_
  have h0 : Clos ops.toArray (Array.replicate ops.toArray.size false) := by
    intro j o hj
    exfalso
    simp only [Array.getD_eq_getD_getElem?, Array.getElem?_replicate] at hj
    split at hj <;> simp at hj
  have HL : ∀ listed : Array Bool, Clos ops.toArray listed → cs.getLast?.getD 0 ∈ Region.ready .any ops.toArray listed → ∀ i, i ≠ cs.getLast?.getD 0 → i < ops.toArray.size → listed.getD i true = true := by
    intro listed hcl hr i hil hi2
    by_cases hi : i < listed.size
    · have := List.all_eq_true.1 h5 i (List.mem_range.2 hi2)
      have hmem : i ∈ ahead ops.toArray ops.toArray.size [cs.getLast?.getD 0] := by simpa using this
      rcases ahead_spec hcl hr _ _ (by simp) i hmem with e | e
      · exact absurd e hil
      · simpa [Array.getD_eq_getD_getElem?, Array.getElem?_eq_getElem hi] using e
    · simp [Array.getD_eq_getD_getElem?, Array.getElem?_eq_none (Nat.not_lt.1 hi)]
  have := wpAnyM_quiet (P := P) (C := C) (Q := QA n ds Q) (Region.noSelect_spec h1) HL cs.length qs _ (Array.replicate ops.toArray.size false) (act n ds F) w.drew (by simpa using hq) h2 h0 hC ?_
  · rw [h4] at this; exact this
  · unfold Wq at h
    refine wpQuiet_mono (fun a' ha => ?_) _ _ h
    obtain ⟨F', rfl, hk⟩ := ha
    exact wpAnyM_chain cs _ _ F' _ hc h3 (by intro e; rw [e] at hne; cases hne) (hk _ (Chg.drew _ _))
end
end Go.Proofs.YthppadlcejpgbaaGreatDoor.Wk

namespace Go.Proofs.YthppadlcejpgbaaGreatDoor.Wk
open Go Go.RowKit

section
variable {P : Program} {n : Nat} {ds : List Deferred} {Q : Po} {F : Fr} {w w' : World} {ops rest : List Oper} {d d1 d2 : Nat} {ty ty1 ty2 : TypeId} {pos pos1 pos2 : String} {aft aft1 aft2 : Array Edge}
variable {C : World → Prop} {K : Fr → Prop}
/-- The cells cs lie from (b, o) on. -/
def At (w : World) (b o : Nat) (cs : List Value) : Prop := ∀ (i : Nat) (u : Value), cs[i]? = some u → w.cell? ⟨b, o + i, none⟩ = some u
theorem At.get {b o : Nat} {cs : List Value} (h : At w b o cs) (i : Nat) {u : Value} (hu : cs[i]? = some u) : w.cell? ⟨b, o + i, none⟩ = some u := h i u hu
theorem Bk.at {b : Nat} {T : TypeId} {cs : List Value} (h : Bk w b T cs) : At w b 0 cs := fun i u hu => by rw [Nat.zero_add]; exact h.cell hu
theorem At.keep {Pb : Nat → Prop} {b o : Nat} {cs : List Value} (h : At w b o cs) (hk : Keep Pb w w') (hb : Pb b) (hl : b < w.heap.size) : At w' b o cs := fun i u hu => by
  have := h i u hu
  simp only [World.cell?] at this ⊢
  rw [hk b hb hl]; exact this

/-- &xs[j]. -/
theorem Wl.idxAddr {α : Type} {R : Rel α} {sz : Nat} {Pb : Nat → Prop} {xs : List α} {x i : Operand} {t e bytes : Nat} {agg : Bool} {z v : Value} {k : IntKind} {j : Int} {y : α}
    [ht : Und P t (.slice e)] [he : ElT P e sz bytes agg z] (h : RdS R sz Pb w v xs) (hx : ev n F x = v) (hi : ev n F i = .int k j) (h0 : 0 ≤ j) (hy : xs[j.toNat]? = some y)
    (c : ∀ b o cs, cs.length = sz → R Pb w y cs → At w b o cs → Wl P n ds Q ops rest (upd F d (.pointer (some ⟨b, o, none⟩))) w) :
    Wl P n ds Q ops (⟨some d, .indexAddr t x i, ty, pos, aft, none⟩ :: rest) F w := by
  obtain ⟨b, off, cap, rfl, hlt, cs, hl, hR, hc⟩ := h.cells hy
  refine Wl.val (w' := w) (v := .pointer (some ((⟨b, off, none⟩ : Addr).add (j.toNat * sz)))) ?_ ?_
  · simp only [execOp, hx, hi, Sem.run_bind, run_indexAt ht.h he h0 (by omega : j < xs.length), Result.andThen_ok, Sem.run_pure]
  · rw [addr_add]; exact c _ _ cs hl hR hc
/-- The same in a region that draws: in every world of the class the list reads so. -/
theorem Wq.idxAddr {α : Type} {R : Rel α} {sz : Nat} {Pb : Nat → Prop} {xs : List α} {x i : Operand} {t e bytes : Nat} {agg : Bool} {z v : Value} {k : IntKind} {j : Int} {y : α} {w : World}
    [ht : Und P t (.slice e)] [he : ElT P e sz bytes agg z] (h : RdS R sz Pb w v xs) (hC : ∀ w', C w' → Keep Pb w w') (hx : ev n F x = v) (hi : ev n F i = .int k j) (h0 : 0 ≤ j) (hy : xs[j.toNat]? = some y)
    (c : ∀ b o cs, cs.length = sz → R Pb w y cs → (∀ w', C w' → At w' b o cs) → Wq P n ds C K ops rest (upd F d (.pointer (some ⟨b, o, none⟩)))) :
    Wq P n ds C K ops (⟨some d, .indexAddr t x i, ty, pos, aft, none⟩ :: rest) F := by
  have hlt' : ∃ b off cap, v = .slice (some ⟨b, off, none⟩) xs.length cap ∧ ((0 < sz) → Pb b ∧ b < w.heap.size) ∧ j.toNat < xs.length ∧ ∃ cs : List Value, cs.length = sz ∧ R Pb w y cs ∧ At w b (off + j.toNat * sz) cs := by
    rcases h with ⟨rfl, rfl⟩ | ⟨a, cap, rfl, rfl, hc⟩ | ⟨b, off, cap, cur, e', fr, rfl, hb, hh, h1, h2, h3, h4⟩
    · simp at hy
    · simp at hy
    · have h' : RdS R sz Pb w (.slice (some ⟨b, off, none⟩) xs.length cap) xs := .inr (.inr ⟨b, off, cap, cur, e', fr, rfl, hb, hh, h1, h2, h3, h4⟩)
      obtain ⟨b', off', cap', e1, hlt, cs, hl, hR, hc⟩ := h'.cells hy
      cases e1
      exact ⟨b, off, cap, rfl, fun _ => ⟨hb, heap_lt hh⟩, hlt, cs, hl, hR, hc⟩
  obtain ⟨b, off, cap, rfl, hb, hlt, cs, hl, hR, hc⟩ := hlt'
  refine Wq.val (v := .pointer (some ((⟨b, off, none⟩ : Addr).add (j.toNat * sz)))) (fun w1 _ => ?_) ?_
  · simp only [execOp, hx, hi, Sem.run_bind, run_indexAt ht.h he h0 (by omega : j < xs.length), Result.andThen_ok, Sem.run_pure]
  · rw [addr_add]
    refine c _ _ cs hl hR fun w' hw' => ?_
    rcases Nat.eq_zero_or_pos sz with hz | hz
    · intro i u hu; rw [List.eq_nil_of_length_eq_zero (hl.trans hz)] at hu; simp at hu
    · exact hc.keep (hC w' hw') (hb hz).1 (hb hz).2
/-- The same, of a list that was read in an earlier world. -/
theorem Wl.idxAddrK {α : Type} {R : Rel α} {sz : Nat} {Pb : Nat → Prop} {xs : List α} {x i : Operand} {t e bytes : Nat} {agg : Bool} {z v : Value} {k : IntKind} {j : Int} {y : α} {w0 : World}
    [ht : Und P t (.slice e)] [he : ElT P e sz bytes agg z] (h : RdS R sz Pb w0 v xs) (hk : Keep Pb w0 w) (hx : ev n F x = v) (hi : ev n F i = .int k j) (h0 : 0 ≤ j) (hy : xs[j.toNat]? = some y)
    (c : ∀ b o cs, cs.length = sz → R Pb w0 y cs → At w b o cs → Wl P n ds Q ops rest (upd F d (.pointer (some ⟨b, o, none⟩))) w) :
    Wl P n ds Q ops (⟨some d, .indexAddr t x i, ty, pos, aft, none⟩ :: rest) F w := by
  rcases h with ⟨rfl, rfl⟩ | ⟨a, cap, rfl, rfl, hc⟩ | ⟨b, off, cap, cur, e', fr, rfl, hb, hh, h1, h2, h3, h4⟩
  · simp at hy
  · simp at hy
  · have h' : RdS R sz Pb w0 (.slice (some ⟨b, off, none⟩) xs.length cap) xs := .inr (.inr ⟨b, off, cap, cur, e', fr, rfl, hb, hh, h1, h2, h3, h4⟩)
    obtain ⟨b', off', cap', e1, hlt, cs, hl, hR, hc⟩ := h'.cells hy
    cases e1
    refine Wl.val (w' := w) (v := .pointer (some ((⟨b, off, none⟩ : Addr).add (j.toNat * sz)))) ?_ ?_
    · simp only [execOp, hx, hi, Sem.run_bind, run_indexAt ht.h he h0 (by omega : j < xs.length), Result.andThen_ok, Sem.run_pure]
    · rw [addr_add]; exact c _ _ cs hl hR (At.keep (w := w0) hc hk hb (heap_lt hh))
/-- xs[j] in a region that draws, an element of one cell. -/
theorem Wq.idxAddrV {α : Type} {f : α → Value} {Pb : Nat → Prop} {xs : List α} {x i : Operand} {t e bytes : Nat} {agg : Bool} {z v : Value} {k : IntKind} {j : Int} {y : α} {w : World}
    [ht : Und P t (.slice e)] [he : ElT P e 1 bytes agg z] (h : RdS (one f) 1 Pb w v xs) (hC : ∀ w', C w' → Keep Pb w w') (hx : ev n F x = v) (hi : ev n F i = .int k j) (h0 : 0 ≤ j) (hy : xs[j.toNat]? = some y)
    (c : ∀ b o, (∀ w', C w' → w'.cell? ⟨b, o, none⟩ = some (f y)) → Wq P n ds C K ops rest (upd F d (.pointer (some ⟨b, o, none⟩)))) :
    Wq P n ds C K ops (⟨some d, .indexAddr t x i, ty, pos, aft, none⟩ :: rest) F :=
  Wq.idxAddr h hC hx hi h0 hy fun b o cs _ hR hat => c b o fun w' hw' => by
    cases hR
    exact hat w' hw' 0 (f y) rfl
theorem Wl.loadAt {x : Operand} {e sz bytes : Nat} {z : Value} {b o : Nat} {cs : List Value} [he : ElT P e sz bytes true z] (h : At w b o cs) (hl : cs.length = sz) (hx : ev n F x = .pointer (some ⟨b, o, none⟩))
    (c : Wl P n ds Q ops rest (upd F d (.agg cs.toArray)) w) : Wl P n ds Q ops (⟨some d, .load e x, ty, pos, aft, none⟩ :: rest) F w :=
  Wl.val (by simp only [execOp, hx, Sem.run_bind, run_loadA he hl h, Result.andThen_ok, Sem.run_pure]) c
theorem Wq.loadAt {x : Operand} {e sz bytes : Nat} {z : Value} {b o : Nat} {cs : List Value} [he : ElT P e sz bytes true z] (h : ∀ w, C w → At w b o cs) (hl : cs.length = sz) (hx : ev n F x = .pointer (some ⟨b, o, none⟩))
    (c : Wq P n ds C K ops rest (upd F d (.agg cs.toArray))) : Wq P n ds C K ops (⟨some d, .load e x, ty, pos, aft, none⟩ :: rest) F :=
  Wq.val (fun w hw => by simp only [execOp, hx, Sem.run_bind, run_loadA he hl (h w hw), Result.andThen_ok, Sem.run_pure]) c

/-! Variables of several cells. -/
def setRange (cs : List Value) (o : Nat) (new : List Value) : List Value := cs.take o ++ new ++ cs.drop (o + new.length)
theorem run_storeAgg {e sz bytes : Nat} {agg : Bool} {z : Value} {b o : Nat} {T : TypeId} {cs new : List Value} {u : Value} (he : ElT P e sz bytes agg z) (h : Bk w b T cs) (hn : new.length = sz) (ho : o + sz ≤ cs.length) (hu : u.cells = new.toArray) (h1 : ∀ c ∈ new, c.oneCell' = true) :
    (Instr.storeAt e (.pointer (some ⟨b, o, none⟩)) u).run P w = .ok () (w.setRow b (setRange cs o new).toArray) := by
  have hr := run_storeCells_at P b o T new 0 cs.toArray w h (by simp; omega) (by intro c hc; exact h1 c hc)
  simp only [Instr.storeAt, Instr.sureAddr, storeVar, Sem.run_bind, Sem.run_pure, Result.andThen_ok, he.sizeOf, hu]
  rw [if_neg (by simp [hn])]
  simpa [setRange] using hr
theorem Bk.setRow {b : Nat} {T : TypeId} {cs new : List Value} (h : Bk w b T cs) : Bk (w.setRow b new.toArray) b T new := setRow_heap w b _ _ T _ h
/-- A struct is stored into a variable, or into a part of one. -/
theorem Wl.storeB {x y : Operand} {e sz bytes : Nat} {agg : Bool} {z u : Value} {b o : Nat} {T : TypeId} {cs new : List Value} [he : ElT P e sz bytes agg z] (h : Bk w b T cs) (hx : ev n F x = .pointer (some ⟨b, o, none⟩)) (hy : ev n F y = u) (hu : u.cells = new.toArray) (hn : new.length = sz) (ho : o + sz ≤ cs.length) (h1 : ∀ c ∈ new, c.oneCell' = true)
    (c : ∀ w', Bk w' b T (setRange cs o new) → Chg (fun k => k = b) w w' → w'.heap.size = w.heap.size → Wl P n ds Q ops rest F w') : Wl P n ds Q ops (⟨none, .store e x y, ty, pos, aft, none⟩ :: rest) F w :=
  Wl.unit (by simp only [execOp, hx, hy, Sem.run_bind, run_storeAgg he h hn ho hu h1, Result.andThen_ok, Sem.run_pure]) (c _ h.setRow (Chg.setRow rfl) (by simp))

/-! Maps of the call's own. -/
def MapL (P : Program) (k : TypeId) (w : World) (b : Nat) (l : List (Value × Value)) : Prop :=
  ∃ es clock, w.heap[b]? = some (.map es clock) ∧ es.toList.map (fun e => (e.key, e.val)) = l ∧ ∀ e ∈ es.toList, ∃ q, keyOf P k e.key = some q
theorem MapL.lt {k : TypeId} {b : Nat} {l : List (Value × Value)} (h : MapL P k w b l) : b < w.heap.size := by obtain ⟨_, _, h, _⟩ := h; exact (Array.getElem?_eq_some_iff.1 h).1
theorem MapL.keep {Pb : Nat → Prop} {k : TypeId} {b : Nat} {l : List (Value × Value)} (h : MapL P k w b l) (hk : Keep Pb w w') (hb : Pb b) : MapL P k w' b l := by
  have hl := h.lt
  obtain ⟨es, clock, h, r⟩ := h
  exact ⟨es, clock, (hk b hb hl).trans h, r⟩
theorem MapL.chg {M : Nat → Prop} {k : TypeId} {b : Nat} {l : List (Value × Value)} (h : MapL P k w b l) (hc : Chg M w w') (hb : ¬ M b) : MapL P k w' b l := by
  have hl := h.lt
  obtain ⟨es, clock, h, r⟩ := h
  exact ⟨es, clock, (hc.block b hl hb).trans h, r⟩
theorem Wl.makeMap {t : TypeId} {k : TypeId} (c : ∀ w', MapL P k w' w.heap.size [] → New w w' → w'.heap.size = w.heap.size + 1 → Wl P n ds Q ops rest (upd F d (.map (some w.heap.size))) w') :
    Wl P n ds Q ops (⟨some d, .makeMap t none, ty, pos, aft, none⟩ :: rest) F w := by
  refine Wl.val (w' := w.alloc (.map #[] 0)) (v := .map (some w.heap.size)) ?_ (c _ ⟨#[], 0, heap_alloc_new w _, by simp, by simp⟩ (Chg.alloc _ _ _) (by simp))
  simp [execOp, Instr.makeMap]
theorem run_lookup {t k e : TypeId} {sz bytes : Nat} {agg : Bool} {z : Value} {b : Nat} {l : List (Value × Value)} {key : Value} {q : Lit} (ht : P.underlying t = some (.map k e)) (he : ElT P e sz bytes agg z) (Kd : Maps.Keyed P k) (h : MapL P k w b l) (hq : keyOf P k key = some q) :
    ∃ r, (Instr.lookup t (.map (some b)) key false).run P w = .ok r w ∧ ((key, r) ∈ l ∨ r = z ∧ ∀ p ∈ l, p.1 ≠ key) := by
  obtain ⟨es, clock, hh, rfl, hk⟩ := h
  have hg := run_getObj_map (P := P) w b es clock hh
  rcases Kd.find w hq es.toList hk with ⟨hf, hn⟩ | ⟨j, e0, hf, hj, rfl⟩
  · refine ⟨z, ?_, .inr ⟨rfl, fun p hp => ?_⟩⟩
    · simp [Instr.lookup, run_underlying ht, hg, Kd.check w _ hq, hf, he.zeroValue]
    · obtain ⟨e1, he1, rfl⟩ := List.mem_map.1 hp; exact hn e1 he1
  · refine ⟨e0.val, ?_, .inl (List.mem_map.2 ⟨e0, List.mem_of_getElem? hj, rfl⟩)⟩
    simp [Instr.lookup, run_underlying ht, hg, Kd.check w _ hq, hf]
theorem Wl.lookup {x i : Operand} {t k e : TypeId} {sz bytes : Nat} {agg : Bool} {z : Value} {b : Nat} {l : List (Value × Value)} {key : Value} {q : Lit} [ht : Und P t (.map k e)] [he : ElT P e sz bytes agg z] (Kd : Maps.Keyed P k) (h : MapL P k w b l) (hq : keyOf P k key = some q)
    (hx : ev n F x = .map (some b)) (hi : ev n F i = key) (c : ∀ r, ((key, r) ∈ l ∨ r = z ∧ ∀ p ∈ l, p.1 ≠ key) → Wl P n ds Q ops rest (upd F d r) w) :
    Wl P n ds Q ops (⟨some d, .lookup t x i false, ty, pos, aft, none⟩ :: rest) F w := by
  obtain ⟨r, hr, hp⟩ := run_lookup ht.h he Kd h hq
  exact Wl.val (by simp only [execOp, hx, hi, Sem.run_bind, hr, Result.andThen_ok, Sem.run_pure]) (c r hp)
theorem Wq.lookup {x i : Operand} {t k e : TypeId} {sz bytes : Nat} {agg : Bool} {z u0 : Value} {b : Nat} {l : List (Value × Value)} {key : Value} {q : Lit} {w : World} [ht : Und P t (.map k e)] [he : ElT P e sz bytes agg z] (Kd : Maps.Keyed P k) (h : MapL P k w b l) (hall : ∀ p ∈ l, p.2 = u0) (hC : ∀ w', C w' → w'.heap[b]? = w.heap[b]?) (hq : keyOf P k key = some q)
    (hx : ev n F x = .map (some b)) (hi : ev n F i = key) (c1 : (key, u0) ∈ l → Wq P n ds C K ops rest (upd F d u0)) (c2 : (∀ p ∈ l, p.1 ≠ key) → Wq P n ds C K ops rest (upd F d z)) :
    Wq P n ds C K ops (⟨some d, .lookup t x i false, ty, pos, aft, none⟩ :: rest) F := by
  have hM : ∀ w', C w' → MapL P k w' b l := fun w' hw' => by obtain ⟨es, clock, hh, r⟩ := h; exact ⟨es, clock, (hC w' hw').trans hh, r⟩
  have run : ∀ w', C w' → ∃ r, (Instr.lookup t (.map (some b)) key false).run P w' = .ok r w' ∧ ((key, r) ∈ l ∨ r = z ∧ ∀ p ∈ l, p.1 ≠ key) := fun w' hw' => run_lookup ht.h he Kd (hM w' hw') hq
  by_cases hin : (key, u0) ∈ l
  · refine Wq.val (v := u0) (fun w' hw' => ?_) (c1 hin)
    obtain ⟨r, hr, hp⟩ := run w' hw'
    obtain rfl : r = u0 := by
      rcases hp with hp | ⟨_, hp⟩
      · exact hall _ hp
      · exact absurd rfl (hp _ hin)
    simp only [execOp, hx, hi, Sem.run_bind, hr, Result.andThen_ok, Sem.run_pure]
  · have hn : ∀ p ∈ l, p.1 ≠ key := fun p hp e => hin (by
      have h2 := hall p hp
      obtain ⟨p1, p2⟩ := p
      simp only at e h2
      subst e
      subst h2
      exact hp)
    refine Wq.val (v := z) (fun w' hw' => ?_) (c2 hn)
    obtain ⟨r, hr, hp⟩ := run w' hw'
    obtain rfl : r = z := by
      rcases hp with hp | ⟨hz, _⟩
      · exact absurd rfl (hn _ hp)
      · exact hz
    simp only [execOp, hx, hi, Sem.run_bind, hr, Result.andThen_ok, Sem.run_pure]
/-- A key that was not there. -/
theorem Wl.mapPut {x i y : Operand} {t k e : TypeId} {b : Nat} {l : List (Value × Value)} {key u : Value} {q : Lit} [ht : Und P t (.map k e)] (Kd : Maps.Keyed P k) (h : MapL P k w b l) (hq : keyOf P k key = some q) (hn : ∀ p ∈ l, p.1 ≠ key)
    (hx : ev n F x = .map (some b)) (hi : ev n F i = key) (hy : ev n F y = u) (c : ∀ w', MapL P k w' b (l ++ [(key, u)]) → Chg (fun j => j = b) w w' → w'.heap.size = w.heap.size → Wl P n ds Q ops rest F w') :
    Wl P n ds Q ops (⟨none, .mapUpdate t x i y, ty, pos, aft, none⟩ :: rest) F w := by
  have hlt := h.lt
  obtain ⟨es, clock, hh, rfl, hk⟩ := h
  have hg := run_getObj_map (P := P) w b es clock hh
  rcases Kd.find w hq es.toList hk with ⟨hf, _⟩ | ⟨j, e0, hf, hj, rfl⟩
  · have h1 : (w.heap.setIfInBounds b (.map (es.push { key, val := u, born := clock }) (clock + 1)))[b]? = some (.map (es.push { key, val := u, born := clock }) (clock + 1)) := by simp [Array.getElem?_setIfInBounds, hlt]
    have hset : (setObj b (.map (es.push { key, val := u, born := clock }) (clock + 1))).run P w = .ok () { w with heap := w.heap.setIfInBounds b (.map (es.push { key, val := u, born := clock }) (clock + 1)) } := by simp [setObj, Sem.run, hh]
    refine Wl.unit (w' := { w with heap := w.heap.setIfInBounds b (.map (es.push { key, val := u, born := clock }) (clock + 1)) }) ?_ (c _ ⟨_, _, h1, by simp, fun e he => ?_⟩ ⟨rfl, rfl, rfl, by simp, fun j _ hj => Array.getElem?_setIfInBounds_ne (Ne.symm hj)⟩ (by simp))
    · simp [execOp, hx, hi, hy, Instr.mapUpdate, run_underlying ht.h, hg, Kd.check w _ hq, hf, hset]
    · simp only [Array.toList_push, List.mem_append, List.mem_singleton] at he
      rcases he with he | rfl
      · exact hk e he
      · exact ⟨q, hq⟩
  · exact absurd rfl (hn (e0.key, e0.val) (List.mem_map.2 ⟨e0, List.mem_of_getElem? hj, rfl⟩))
end

/-! Lists of the call's own, beside one another. -/
def Plain {α : Type} (R : Rel α) : Prop := ∀ Pb Pb' w w' x cs, R Pb w x cs → R Pb' w' x cs
theorem plain_one {α : Type} (f : α → Value) : Plain (one f) := fun _ _ _ _ _ _ h => h
theorem plain_flat {α : Type} (f : α → List Value) : Plain (flat f) := fun _ _ _ _ _ _ h => h
theorem good_flat {α : Type} {sz : Nat} (f : α → List Value) (hl : ∀ x, (f x).length = sz) (h : ∀ x, ∀ c ∈ f x, c.oneCell' = true) : GoodR (flat f) sz :=
  ⟨stable_flat f, mono_flat f, fun _ _ x cs e _ c hc => by cases e; exact h x c hc⟩
/-- No block of v is u's. -/
def Sep (v u : Value) : Prop := ∀ k, v.ownBlock = some k → u.ownBlock ≠ some k
theorem Sep.symm {v u : Value} (h : Sep v u) : Sep u v := fun k h1 h2 => h k h2 h1
section
variable {α β : Type} {R : Rel α} {R' : Rel β} {e e' : TypeId} {sz sz' : Nat} {Pb Pe Qb Qe M : Nat → Prop} {w w' : World} {v u u' : Value} {xs : List α} {ys : List β}
theorem OwnS.chg (hR : Plain R) (h : OwnS R e sz Pb Pe w v xs) (c : Chg M w w') (s : ∀ k, v.ownBlock = some k → ¬ M k) : OwnS R e sz Pb Pe w' v xs := by
  obtain ⟨cs, ⟨hl, hoc⟩, he⟩ := h
  refine ⟨cs, ⟨hl, ?_⟩, fun i x hx => hR _ _ _ _ _ _ (he i x hx)⟩
  rcases hoc with hoc | ⟨b, cap, cur, rfl, hb, hg, r⟩
  · exact .inl hoc
  · exact .inr ⟨b, cap, cur, rfl, hb, (c.block b (heap_lt hg) (s b rfl)).trans hg, r⟩
theorem OwnS.keepSep (hR : Plain R) (h : OwnS R e sz Pb Pe w v xs) (c : Chg (fun k => u.ownBlock = some k) w w') (s : Sep v u) : OwnS R e sz Pb Pe w' v xs := h.chg hR c s
theorem OwnS.new (hR : Plain R) (h : OwnS R e sz Pb Pe w v xs) (c : New w w') : OwnS R e sz Pb Pe w' v xs := h.chg hR c fun _ _ e => e
theorem sepGrown (h : OwnS R e sz Pb Pe w v xs) (s : Sep v u) (lie : u'.ownBlock = u.ownBlock ∨ ∀ b, u'.ownBlock = some b → w.heap.size ≤ b) : Sep v u' := by
  intro k hk hk'
  rcases lie with lie | lie
  · exact s k hk (lie ▸ hk')
  · have := (h.lt hk).2
    have := lie k hk'
    omega
theorem sepOf (h : OwnS R e sz Pb Pe w v xs) (h' : OwnS R' e' sz' Qb Qe w u ys) (d : ∀ k, Pb k → ¬ Qb k) : Sep v u :=
  fun k hk hk' => d k (h.lt hk).1 (h'.lt hk').1
theorem OwnS.take (h : OwnS R e sz Pb Pe w v xs) {m : Nat} (hm : m ≤ xs.length) {a : Option Addr} {l cap : Nat} (hv : v = .slice a l cap) (hz : a = none → m = 0) : OwnS R e sz Pb Pe w (.slice a m cap) (xs.take m) := by
  obtain ⟨cs, ⟨hl, hoc⟩, he⟩ := h
  have hlen : (xs.take m).length = m := by simp; omega
  have hle : m * sz ≤ xs.length * sz := Nat.mul_le_mul_right _ hm
  refine ⟨cs.take (m * sz), ⟨by rw [hlen]; simp; omega, ?_⟩, fun i x hx => ?_⟩
  · rw [hlen]
    rcases hoc with ⟨rfl, h0⟩ | ⟨b, cap', cur, rfl, hb, hg, h1, h2, h3, h4⟩
    · cases hv
      exact .inl ⟨by rw [hz rfl], hz rfl⟩
    · cases hv
      exact .inr ⟨b, cap, cur, rfl, hb, hg, by omega, h2, h3, by rw [← h4, List.take_take, Nat.min_eq_left hle]⟩
  · rw [List.getElem?_take] at hx
    split at hx
    · rename_i hi
      have h1 := he i x hx
      have : (i + 1) * sz ≤ m * sz := Nat.mul_le_mul_right _ hi
      rw [Nat.add_mul] at this
      rw [List.drop_take, List.take_take, Nat.min_eq_left (by omega)]
      have e : (Value.slice a m cap).ownBlock = v.ownBlock := by subst hv; cases a <;> rfl
      rw [e]; exact h1
    · cases hx
end
section
variable {P : Program} {n : Nat} {ds : List Deferred} {Q : Po} {F : Fr} {w w' : World} {ops rest : List Oper} {d d1 d2 : Nat} {ty ty1 ty2 : TypeId} {pos pos1 pos2 : String} {aft aft1 aft2 : Array Edge}
/-- x[:b] of a list of one's own. -/
theorem Wl.sliceOwn {α : Type} {R : Rel α} {Pb Pe : Nat → Prop} {xs : List α} {x hi : Operand} {t e e' : TypeId} {sz sz' bytes : Nat} {agg : Bool} {z v : Value} {k : IntKind} {b : Int} [ht : Und P t (.slice e)] [he : ElT P e sz bytes agg z] (h : OwnS R e' sz' Pb Pe w v xs) (hx : ev n F x = v) (hh : ev n F hi = .int k b) (h0 : 0 ≤ b) (h1 : b ≤ xs.length)
    (c : ∀ v', OwnS R e' sz' Pb Pe w v' (xs.take b.toNat) → v'.ownBlock = v.ownBlock → Wl P n ds Q ops rest (upd F d v') w) : Wl P n ds Q ops (⟨some d, .slice t x none (some hi) none, ty, pos, aft, none⟩ :: rest) F w := by
  obtain ⟨p, cap, rfl, hc, _⟩ := h.form
  obtain ⟨b, rfl⟩ := Int.eq_ofNat_of_zero_le h0
  have := run_sliceS (P := P) (w := w) (p := p) (l := xs.length) (lo := none) (hi := some (.int k b)) (a := 0) (b := b) ht.h he (.inl ⟨rfl, rfl⟩) (.inr ⟨k, rfl⟩) (Nat.zero_le _) (by omega : b ≤ cap)
  have hp : (if cap = 0 then p else p.map (·.add (0 * sz))) = p := by
    split
    · rfl
    · cases p with
      | none => rfl
      | some a => simp [Addr.add]
  refine Wl.val (w' := w) (v := .slice p b cap) ?_ (c _ (h.take (m := b) (by omega) rfl ?_) (by cases p <;> rfl))
  · simp only [execOp, hx, hh, Option.map_none, Option.map_some, Sem.run_bind, this, Result.andThen_ok, Sem.run_pure, hp, Nat.sub_zero]
  · rintro rfl
    obtain ⟨cs, ⟨_, hoc⟩, _⟩ := h
    rcases hoc with ⟨e1, h2⟩ | ⟨_, _, _, e1, _⟩
    · omega
    · cases e1
/-- A slice compared with nil. -/
theorem run_eqGuard_sl {op : BinOp} {t : TypeId} {x y : Operand} {a b : Option Addr} {l c l' c' : Nat} : (eqGuard op t x y (.slice a l c) (.slice b l' c')).run P w = .ok () w := by
  unfold eqGuard; split <;> simp
theorem Wl.slNil {x y : Operand} {t t' e : TypeId} {a : Option Addr} {l cap : Nat} [ht : Und P t (.slice e)] (hx : ev n F x = .slice a l cap) (hy : ev n F y = .slice none 0 0) (c : Wl P n ds Q ops rest (upd F d (.bool a.isNone)) w) :
    Wl P n ds Q ops (⟨some d, .binOp .eql t x y t', ty, pos, aft, none⟩ :: rest) F w := by
  refine Wl.val ?_ c
  have h : (binOp .eql t (.slice a l cap) (.slice none 0 0)).run P w = .ok (.bool a.isNone) w := by
    have := run_equal_slice_nil (P := P) w t e a l cap ht.h
    simp [binOp, this]
  simp only [execOp, hx, hy, Sem.run_bind, run_eqGuard_sl, Result.andThen_ok, h, Sem.run_pure]
/-- The address of an element, told. -/
theorem Wl.idxP {x i : Operand} {t e sz bytes : Nat} {agg : Bool} {z : Value} {k : IntKind} {j : Int} {b off l cap : Nat} [ht : Und P t (.slice e)] [he : ElT P e sz bytes agg z] (hx : ev n F x = .slice (some ⟨b, off, none⟩) l cap) (hi : ev n F i = .int k j) (h0 : 0 ≤ j) (h1 : j < l)
    (c : Wl P n ds Q ops rest (upd F d (.pointer (some ⟨b, off + j.toNat * sz, none⟩))) w) : Wl P n ds Q ops (⟨some d, .indexAddr t x i, ty, pos, aft, none⟩ :: rest) F w := by
  refine Wl.val (w' := w) (v := .pointer (some ((⟨b, off, none⟩ : Addr).add (j.toNat * sz)))) ?_ ?_
  · simp only [execOp, hx, hi, Sem.run_bind, run_indexAt ht.h he h0 h1, Result.andThen_ok, Sem.run_pure]
  · rw [addr_add]; exact c
theorem Wq.idxP {C : World → Prop} {K : Fr → Prop} {x i : Operand} {t e sz bytes : Nat} {agg : Bool} {z : Value} {k : IntKind} {j : Int} {b off l cap : Nat} [ht : Und P t (.slice e)] [he : ElT P e sz bytes agg z] (hx : ev n F x = .slice (some ⟨b, off, none⟩) l cap) (hi : ev n F i = .int k j) (h0 : 0 ≤ j) (h1 : j < l)
    (c : Wq P n ds C K ops rest (upd F d (.pointer (some ⟨b, off + j.toNat * sz, none⟩)))) : Wq P n ds C K ops (⟨some d, .indexAddr t x i, ty, pos, aft, none⟩ :: rest) F := by
  refine Wq.val (v := .pointer (some ((⟨b, off, none⟩ : Addr).add (j.toNat * sz)))) (fun w _ => ?_) ?_
  · simp only [execOp, hx, hi, Sem.run_bind, run_indexAt ht.h he h0 h1, Result.andThen_ok, Sem.run_pure]
  · rw [addr_add]; exact c
/-- A list of one's own that holds something has a block. -/
theorem OwnS.blk {α : Type} {R : Rel α} {e : TypeId} {sz : Nat} {Pb Pe : Nat → Prop} {v : Value} {xs : List α} (h : OwnS R e sz Pb Pe w v xs) (h0 : xs ≠ []) : ∃ g cap, v = .slice (some ⟨g, 0, none⟩) xs.length cap ∧ Pb g ∧ g < w.heap.size ∧ v.ownBlock = some g := by
  obtain ⟨cs, ⟨hl, hoc⟩, he⟩ := h
  rcases hoc with ⟨rfl, h2⟩ | ⟨g, cap, cur, rfl, hb, hg, _⟩
  · exact absurd (List.eq_nil_of_length_eq_zero h2) h0
  · exact ⟨g, cap, rfl, hb, heap_lt hg, rfl⟩
theorem OwnS.reblk {α : Type} {R : Rel α} {e : TypeId} {sz : Nat} {Pb Pb' Pe : Nat → Prop} {v : Value} {xs : List α} (h : OwnS R e sz Pb Pe w v xs) (hb : ∀ b, v.ownBlock = some b → Pb b → Pb' b) : OwnS R e sz Pb' Pe w v xs := by
  obtain ⟨cs, ⟨hl, hoc⟩, he⟩ := h
  refine ⟨cs, ⟨hl, ?_⟩, he⟩
  rcases hoc with hoc | ⟨g, cap, cur, rfl, hg, r⟩
  · exact .inl hoc
  · exact .inr ⟨g, cap, cur, rfl, hb g rfl hg, r⟩
theorem OwnS.cell1 {α : Type} {f : α → Value} {e : TypeId} {Pb Pe : Nat → Prop} {v : Value} {xs : List α} {g l cap j : Nat} {y : α} (h : OwnS (one f) e 1 Pb Pe w v xs) (hv : v = .slice (some ⟨g, 0, none⟩) l cap) (hy : xs[j]? = some y) : w.cell? ⟨g, j, none⟩ = some (f y) := by
  obtain ⟨b, off, cap', e1, hlt, cs, hl, hR, hc⟩ := (h.rd (mono_one _)).cells hy
  rw [hv] at e1
  cases e1
  cases hR
  simpa using hc 0 (f y) rfl
/-- A store into a list of one's own, elements of one cell. -/
theorem Wl.storeOwn {α : Type} {f : α → Value} {Pb Pe : Nat → Prop} {xs : List α} {x y : Operand} {e bytes : Nat} {agg : Bool} {z v u : Value} {g j cap : Nat} {q : α} [he : ElT P e 1 bytes agg z] (hown : OwnS (one f) e 1 Pb Pe w v xs) (hv : v = .slice (some ⟨g, 0, none⟩) xs.length cap) (hj : j < xs.length)
    (hx : ev n F x = .pointer (some ⟨g, j, none⟩)) (hy : ev n F y = u) (hq : u = f q) (hu : u.oneCell' = true) (c : ∀ w', OwnS (one f) e 1 Pb Pe w' v (xs.set j q) → Chg (fun b => v.ownBlock = some b) w w' → Wl P n ds Q ops rest F w') :
    Wl P n ds Q ops (⟨none, .store e x y, ty, pos, aft, none⟩ :: rest) F w := by
  subst hq
  obtain ⟨cs, hoc, hel⟩ := hown
  have huc : (f q).cells = #[f q] := by cases hf : f q <;> simp_all [Value.cells, Value.oneCell']
  obtain ⟨w', hr, hoc', hc⟩ := run_store1 (P := P) (u := f q) he hoc hv (j := j) hj hu huc
  exact Wl.unit (by simp only [execOp, hx, hy, Sem.run_bind, hr, Result.andThen_ok, Sem.run_pure]) (c w' (OwnS.set1 rfl hoc hel _ _ hoc') hc)
/-- A closure. -/
theorem Wl.makeFunc {fn : Fn} {first cap : List Operand} {f1 c1 : List Value} (h1 : first.map (ev n F) = f1) (h2 : cap.map (ev n F) = c1) (c : Wl P n ds Q ops rest (upd F d (.func fn f1.toArray c1.toArray)) w) :
    Wl P n ds Q ops (⟨some d, .makeFunc fn first.toArray cap.toArray, ty, pos, aft, none⟩ :: rest) F w := by
  subst h1
  subst h2
  exact Wl.val (by simp [execOp, Instr.makeFunc]) c
/-- x[:b] in a region that draws. -/
theorem Wq.sliceTo {α : Type} {R : Rel α} {C : World → Prop} {K : Fr → Prop} {Pb : Nat → Prop} {xs : List α} {x hi : Operand} {t e : TypeId} {sz bytes : Nat} {agg : Bool} {z v : Value} {k : IntKind} {b : Int} [ht : Und P t (.slice e)] [he : ElT P e sz bytes agg z] (h : RdS R sz Pb w v xs) (hx : ev n F x = v) (hh : ev n F hi = .int k b) (h0 : 0 ≤ b) (h1 : b ≤ xs.length)
    (c : ∀ v', RdS R sz Pb w v' (xs.take b.toNat) → Wq P n ds C K ops rest (upd F d v')) : Wq P n ds C K ops (⟨some d, .slice t x none (some hi) none, ty, pos, aft, none⟩ :: rest) F := by
  obtain ⟨p, cap, rfl, hc, _⟩ := h.form
  obtain ⟨b, rfl⟩ := Int.eq_ofNat_of_zero_le h0
  have hr := h.sub (a := 0) (b := b) (Nat.zero_le _) (by omega)
  rw [List.drop_zero] at hr
  refine Wq.val (fun w' _ => ?_) (c _ hr)
  have := run_sliceS (P := P) (w := w') (p := p) (l := xs.length) (lo := none) (hi := some (.int k b)) (a := 0) (b := b) ht.h he (.inl ⟨rfl, rfl⟩) (.inr ⟨k, rfl⟩) (Nat.zero_le _) (by omega : b ≤ cap)
  simp only [execOp, hx, hh, Option.map_none, Option.map_some, Sem.run_bind, this, Result.andThen_ok, Sem.run_pure]
/-- min(a, b) of integers. -/
theorem Wl.minI {x y : Operand} {ts : Array TypeId} {k k' : IntKind} {a b : Int} (hx : ev n F x = .int k a) (hy : ev n F y = .int k' b) (c : Wl P n ds Q ops rest (upd F d (.int k (if b < a then b else a))) w) :
    Wl P n ds Q ops (⟨some d, .call { callee := .builtin .min, args := #[x, y], argTypes := ts }, ty, pos, aft, none⟩ :: rest) F w := by
  refine Wl.val (w' := w) ?_ c
  have hr : (Builtin.min_ ts ty #[.int k a, .int k' b]).run P w = .ok (.int k (if b < a then b else a)) w := run_min_int2 _ _ _ _ _ _ _
  simp only [execOp, resolve, Sem.run_bind, Sem.run_pure, Result.andThen_ok, invoke, builtin, List.map_toArray, List.map_cons, List.map_nil, hx, hy, hr]
/-- []T{x}, a list of one's own. -/
theorem Wl.buildSlice1 {α : Type} {R : Rel α} {x : Operand} {t e : TypeId} {sz bytes : Nat} {agg : Bool} {z u : Value} {y : α} {cs : List Value} {Pe : Nat → Prop} (hR : GoodR R sz) [ht : Und P t (.slice e)] [he : ElT P e sz bytes agg z] (hx : ev n F x = u) (hcs : u.cells.toList = cs) (hl : cs.length = sz) (hy : R (fun b => Pe b ∧ w.heap.size ≠ b) w y cs) (hsz : 0 < sz) (hsz2 : sz ≤ 16777216)
    (c : ∀ v w', OwnS R e sz (fun b => w.heap.size ≤ b) Pe w' v [y] → New w w' → w'.heap.size = w.heap.size + 1 → v.ownBlock = some w.heap.size → Wl P n ds Q ops rest (upd F d v) w') :
    Wl P n ds Q ops (⟨some d, .buildSlice t 1 #[(0, x)], ty, pos, aft, none⟩ :: rest) F w := by
  have hus : u.cells.size = sz := by rw [← hl, ← hcs]; simp
  have hr := run_buildSlice1 (P := P) (w := w) ht.h he hus hsz hsz2
  have hn : New w (w.alloc (.cells u.cells e)) := Chg.alloc _ _ _
  refine Wl.val (w' := w.alloc (.cells u.cells e)) ?_ (c _ _ ⟨cs, ⟨by simpa using hl, .inr ⟨w.heap.size, 1, u.cells, rfl, Nat.le_refl _, heap_alloc_new w _, Nat.le_refl _, by unfold maxLen; omega, by simpa using hus, by rw [hcs, List.take_of_length_le]; simp [hl]⟩⟩, fun i x hx => ?_⟩ hn (by simp) rfl)
  · simp only [execOp, List.map_toArray, List.map_cons, List.map_nil, hx, Sem.run_bind, hr, Result.andThen_ok, Sem.run_pure, List.length_singleton]
  · match i with
    | 0 =>
      simp at hx
      subst hx
      simp only [Nat.zero_mul, List.drop_zero]
      rw [List.take_of_length_le (by omega)]
      have h1 := hR.st _ _ _ _ _ hn.keep hy
      exact hR.mo _ _ _ _ _ (fun b _ hb => ⟨hb.1, fun e => hb.2 (by simpa [Value.ownBlock] using e)⟩) h1
    | i + 1 => simp at hx
end
end Go.Proofs.YthppadlcejpgbaaGreatDoor.Wk

namespace Go.Proofs.YthppadlcejpgbaaGreatDoor.Wk
open Go Go.RowKit

theorem setRange_get (cs : List Value) (o : Nat) (new : List Value) (h : o + new.length ≤ cs.length) (q : Nat) : (setRange cs o new)[q]? = if o ≤ q ∧ q < o + new.length then new[q - o]? else cs[q]? := by
  unfold setRange
  rw [List.append_assoc, List.getElem?_append]
  simp only [List.length_take]
  split
  · rename_i h1
    rw [if_neg (by omega), List.getElem?_take, if_pos (by omega)]
  · rename_i h1
    rw [List.getElem?_append]
    split
    · rename_i h2
      rw [if_pos (by omega)]; congr 1; omega
    · rename_i h2
      rw [if_neg (by omega), List.getElem?_drop]; congr 1; omega
theorem setRange_length (cs : List Value) (o : Nat) (new : List Value) (h : o + new.length ≤ cs.length) : (setRange cs o new).length = cs.length := by
  unfold setRange; simp; omega
section
variable {P : Program} {n : Nat} {ds : List Deferred} {Q : Po} {F : Fr} {w w' : World} {ops rest : List Oper} {d d1 d2 : Nat} {ty ty1 ty2 : TypeId} {pos pos1 pos2 : String} {aft aft1 aft2 : Array Edge}
theorem OwnC.storeRange {Pb : Nat → Prop} {e : TypeId} {sz m g cap o : Nat} {v : Value} {cs new : List Value} (h : OwnC Pb w e sz v m cs) (hv : v = .slice (some ⟨g, 0, none⟩) m cap) (ho : o + new.length ≤ m * sz) (h1 : ∀ c ∈ new, c.oneCell' = true) :
    ∃ w', (storeCells ⟨g, o, none⟩ new 0).run P w = .ok () w' ∧ OwnC Pb w' e sz v m (setRange cs o new) ∧ Chg (fun b => v.ownBlock = some b) w w' := by
  obtain ⟨hl, hoc⟩ := h
  rcases hoc with ⟨rfl, _⟩ | ⟨g', cap', cur, rfl, hb, hg, h2, h3, h4, h5⟩
  · cases hv
  · cases hv
    have hms : m * sz ≤ cap * sz := Nat.mul_le_mul_right _ h2
    have hr := run_storeCells_at P g o e new 0 cur w hg (by omega) h1
    have hcl : cs.length = m * sz := hl
    refine ⟨_, hr, ⟨by rw [setRange_length _ _ _ (by omega)]; exact hl, .inr ⟨g, cap, _, rfl, hb, setRow_heap w g cur _ e _ hg, h2, h3, ?_, ?_⟩⟩, Chg.setRow rfl⟩
    · simp; omega
    · simp only [Nat.add_zero]
      apply List.ext_getElem?
      intro q
      rw [setRange_get cs o new (by omega)]
      rw [List.getElem?_take]
      have hcur : ∀ q, q < m * sz → cs[q]? = cur.toList[q]? := fun q hq => by rw [← h5, List.getElem?_take, if_pos hq]
      split
      · rename_i hq
        have := setRange_get cur.toList o new (by simp; omega) q
        unfold setRange at this
        rw [this]
        split
        · rfl
        · exact (hcur q hq).symm
      · rename_i hq
        rw [if_neg (by omega), List.getElem?_eq_none (by omega)]
/-- 's[j] = x', a struct into a list of one's own, the address told. -/
theorem Wl.storeOwnA {α : Type} {f : α → List Value} {Pb Pe : Nat → Prop} {xs : List α} {x y : Operand} {e sz bytes : Nat} {agg : Bool} {z v u : Value} {g j cap : Nat} {q : α} [he : ElT P e sz bytes agg z] (hf : ∀ x, (f x).length = sz) (h1 : ∀ x, ∀ c ∈ f x, c.oneCell' = true)
    (hown : OwnS (flat f) e sz Pb Pe w v xs) (hv : v = .slice (some ⟨g, 0, none⟩) xs.length cap) (hj : j < xs.length)
    (hx : ev n F x = .pointer (some ⟨g, j * sz, none⟩)) (hy : ev n F y = u) (hq : u.cells = (f q).toArray) (c : ∀ w', OwnS (flat f) e sz Pb Pe w' v (xs.set j q) → Chg (fun b => v.ownBlock = some b) w w' → Wl P n ds Q ops rest F w') :
    Wl P n ds Q ops (⟨none, .store e x y, ty, pos, aft, none⟩ :: rest) F w := by
  obtain ⟨cs, hoc, hel⟩ := hown
  have hjs : (j + 1) * sz ≤ xs.length * sz := Nat.mul_le_mul_right _ hj
  rw [Nat.add_mul] at hjs
  have hcl : cs.length = xs.length * sz := hoc.1
  obtain ⟨w', hr, hoc', hc⟩ := hoc.storeRange (P := P) (o := j * sz) (new := f q) hv (by rw [hf]; omega) (h1 q)
  refine Wl.unit (w' := w') ?_ (c w' ⟨setRange cs (j * sz) (f q), by simpa using hoc', fun i x hx => ?_⟩ hc)
  · have hs : u.cells.size = sz := by rw [hq]; simpa using hf q
    simp only [execOp, hx, hy, Instr.storeAt, Instr.sureAddr, storeVar, Sem.run_bind, Sem.run_pure, Result.andThen_ok, he.sizeOf, hq]
    rw [if_neg (by simp [hf])]
    simp only [hr, Result.andThen_ok]
  · have hi : i < xs.length := by have := (List.getElem?_eq_some_iff.1 hx).1; simpa using this
    have hi2 : (i + 1) * sz ≤ xs.length * sz := Nat.mul_le_mul_right _ hi
    rw [Nat.add_mul] at hi2
    rw [List.getElem?_set] at hx
    show _ = f x
    apply List.ext_getElem?
    intro k
    rw [List.getElem?_take, List.getElem?_drop, setRange_get _ _ _ (by rw [hf]; omega), hf]
    by_cases hk : k < sz
    · rw [if_pos hk]
      split at hx
      · rename_i e
        subst e
        simp only [hj, if_true, Option.some.injEq] at hx
        subst hx
        rw [if_pos (by omega)]; congr 1; omega
      · rename_i hne
        have hsep : ¬ (j * sz ≤ i * sz + k ∧ i * sz + k < j * sz + sz) := by
          rintro ⟨a1, a2⟩
          rcases Nat.lt_or_gt_of_ne hne with h | h
          · have : (j + 1) * sz ≤ i * sz := Nat.mul_le_mul_right _ h
            rw [Nat.add_mul] at this; omega
          · have : (i + 1) * sz ≤ j * sz := Nat.mul_le_mul_right _ h
            rw [Nat.add_mul] at this; omega
        rw [if_neg hsep]
        have h2 : (cs.drop (i * sz)).take sz = f x := hel i x hx
        rw [← h2, List.getElem?_take, if_pos hk, List.getElem?_drop]
    · rw [if_neg hk, List.getElem?_eq_none (by rw [hf]; omega)]
/-- 's[j].f = x', one cell of a struct in a list of one's own, the address told. -/
theorem Wl.storeOwnF {α : Type} {f : α → List Value} {Pb Pe : Nat → Prop} {xs : List α} {x y : Operand} {e e' sz bytes : Nat} {agg : Bool} {z v u : Value} {g j o cap : Nat} {p q : α} [he : ElT P e' 1 bytes agg z] (hf : ∀ x, (f x).length = sz) (ho : o < sz) (hu : u.oneCell' = true) (hp : xs[j]? = some p) (hpq : f q = (f p).set o u)
    (hown : OwnS (flat f) e sz Pb Pe w v xs) (hv : v = .slice (some ⟨g, 0, none⟩) xs.length cap)
    (hx : ev n F x = .pointer (some ⟨g, j * sz + o, none⟩)) (hy : ev n F y = u) (c : ∀ w', OwnS (flat f) e sz Pb Pe w' v (xs.set j q) → Chg (fun b => v.ownBlock = some b) w w' → Wl P n ds Q ops rest F w') :
    Wl P n ds Q ops (⟨none, .store e' x y, ty, pos, aft, none⟩ :: rest) F w := by
  obtain ⟨cs, hoc, hel⟩ := hown
  have hj : j < xs.length := (List.getElem?_eq_some_iff.1 hp).1
  have hjs : (j + 1) * sz ≤ xs.length * sz := Nat.mul_le_mul_right _ hj
  rw [Nat.add_mul] at hjs
  have hcl : cs.length = xs.length * sz := hoc.1
  have huc : u.cells = #[u] := by cases u <;> simp_all [Value.cells, Value.oneCell']
  obtain ⟨w', hr, hoc', hc⟩ := hoc.storeRange (P := P) (o := j * sz + o) (new := [u]) hv (by simp; omega) (by simpa using hu)
  refine Wl.unit (w' := w') ?_ (c w' ⟨setRange cs (j * sz + o) [u], by simpa using hoc', fun i x hx => ?_⟩ hc)
  · simp only [execOp, hx, hy, Instr.storeAt, Instr.sureAddr, storeVar, Sem.run_bind, Sem.run_pure, Result.andThen_ok, he.sizeOf, huc]
    rw [if_neg (by simp)]
    simp only [hr, Result.andThen_ok]
  · have hi : i < xs.length := by have := (List.getElem?_eq_some_iff.1 hx).1; simpa using this
    have hi2 : (i + 1) * sz ≤ xs.length * sz := Nat.mul_le_mul_right _ hi
    rw [Nat.add_mul] at hi2
    rw [List.getElem?_set] at hx
    show _ = f x
    apply List.ext_getElem?
    intro k
    rw [List.getElem?_take, List.getElem?_drop, setRange_get _ _ _ (by simp; omega), List.length_singleton]
    by_cases hk : k < sz
    · rw [if_pos hk]
      split at hx
      · rename_i e
        subst e
        simp only [hj, if_true, Option.some.injEq] at hx
        subst hx
        rw [hpq, List.getElem?_set]
        have h2 : (cs.drop (j * sz)).take sz = f p := hel j p hp
        by_cases hko : k = o
        · subst hko
          rw [if_pos (by omega), if_pos rfl, if_pos (by rw [hf]; exact hk), show j * sz + k - (j * sz + k) = 0 by omega]; rfl
        · rw [if_neg (by omega), if_neg (Ne.symm hko), ← h2, List.getElem?_take, if_pos hk, List.getElem?_drop]
      · rename_i hne
        have hsep : ¬ (j * sz + o ≤ i * sz + k ∧ i * sz + k < j * sz + o + 1) := by
          rintro ⟨a1, a2⟩
          rcases Nat.lt_or_gt_of_ne hne with h | h
          · have : (j + 1) * sz ≤ i * sz := Nat.mul_le_mul_right _ h
            rw [Nat.add_mul] at this; omega
          · have : (i + 1) * sz ≤ j * sz := Nat.mul_le_mul_right _ h
            rw [Nat.add_mul] at this; omega
        rw [if_neg hsep]
        have h2 : (cs.drop (i * sz)).take sz = f x := hel i x hx
        rw [← h2, List.getElem?_take, if_pos hk, List.getElem?_drop]
    · rw [if_neg hk, List.getElem?_eq_none (by rw [hf]; omega)]
/-- clear(s[i:]) of a list of one's own: what is ahead stays. -/
theorem run_clearTail {α : Type} {f : α → List Value} {Pb Pe : Nat → Prop} {xs : List α} {t e sz bytes : Nat} {agg : Bool} {z v : Value} {g cap i : Nat} (ht : P.underlying t = some (.slice e)) (he : ElT P e sz bytes agg z) (hz : ∀ c ∈ z.cells.toList, c.oneCell' = true)
    (hown : OwnS (flat f) e sz Pb Pe w v xs) (hv : v = .slice (some ⟨g, 0, none⟩) xs.length cap) (hi : i ≤ xs.length) (p : Addr) (hp : p = ⟨g, i * sz, none⟩ ∨ i = xs.length) :
    ∃ u w', (Builtin.clear_ #[t] ty #[.slice (some p) (xs.length - i) (cap - i)]).run P w = .ok u w' ∧ OwnS (flat f) e sz Pb Pe w' (.slice (some ⟨g, 0, none⟩) i cap) (xs.take i) ∧ Chg (fun b => v.ownBlock = some b) w w' := by
  have htk : ∀ w', OwnS (flat f) e sz Pb Pe w' v xs → OwnS (flat f) e sz Pb Pe w' (.slice (some ⟨g, 0, none⟩) i cap) (xs.take i) := fun w' h => h.take hi hv (by intro e; cases e)
  by_cases hie : i = xs.length
  · refine ⟨.tuple #[], w, ?_, htk w hown, Chg.refl _ _⟩
    subst hie
    simp [Builtin.clear_, run_underlying ht]
  · have hp' : p = ⟨g, i * sz, none⟩ := hp.resolve_right hie
    subst hp'
    obtain ⟨cs, hoc, hel⟩ := hown
    have hcl : cs.length = xs.length * sz := hoc.1
    have hle : i * sz ≤ xs.length * sz := Nat.mul_le_mul_right _ hi
    have hzl : (Builtin.zeroCells z.cells (xs.length - i)).toList.length = (xs.length - i) * sz := by rw [Array.length_toList, size_zeroCells, he.hz]
    obtain ⟨w', hr, hoc', hc⟩ := hoc.storeRange (P := P) (o := i * sz) (new := (Builtin.zeroCells z.cells (xs.length - i)).toList) hv (by rw [hzl, Nat.sub_mul]; omega) (by
      intro c hc
      simp only [Builtin.zeroCells, Array.toList_map, List.mem_map] at hc
      obtain ⟨q, hq, rfl⟩ := hc
      have hsz : 0 < z.cells.size := by
        rcases Nat.eq_zero_or_pos z.cells.size with h0 | h0
        · simp [h0] at hq
        · exact h0
      have hm := Nat.mod_lt q hsz
      refine hz _ ?_
      rw [getElem!_pos z.cells (q % z.cells.size) hm]
      simp)
    have hne : xs.length - i ≠ 0 := by omega
    refine ⟨.tuple #[], w', ?_, ?_, hc⟩
    · obtain ⟨k, hk⟩ : ∃ k, xs.length - i = k + 1 := ⟨xs.length - i - 1, by omega⟩
      rw [hk] at hr ⊢
      simp [Builtin.clear_, run_underlying ht, he.zeroValue, hr]
    · refine ⟨cs.take (i * sz), ⟨by rw [List.length_take, List.length_take, Nat.min_eq_left (by omega), Nat.min_eq_left hi], ?_⟩, fun q x hx => ?_⟩
      · rcases hoc'.2 with ⟨e1, _⟩ | ⟨g', cap', cur, e1, hb, hg, h1, h2, h3, h4⟩
        · rw [hv] at e1; cases e1
        · rw [hv] at e1
          cases e1
          have hl : (xs.take i).length = i := by simp; omega
          rw [hl]
          refine .inr ⟨g, cap, cur, rfl, hb, hg, by omega, h2, h3, ?_⟩
          have : cur.toList.take (i * sz) = (setRange cs (i * sz) (Builtin.zeroCells z.cells (xs.length - i)).toList).take (i * sz) := by rw [← h4, List.take_take, Nat.min_eq_left hle]
          rw [this]
          unfold setRange
          rw [List.append_assoc, List.take_append_of_le_length (by simp; omega), List.take_take, Nat.min_self]
      · rw [List.getElem?_take] at hx
        split at hx
        · rename_i hq
          have h1 := hel q x hx
          have : (q + 1) * sz ≤ i * sz := Nat.mul_le_mul_right _ hq
          rw [Nat.add_mul] at this
          show _ = f x
          rw [List.drop_take, List.take_take, Nat.min_eq_left (by omega)]
          exact h1
        · cases hx
/-- clear(s[i:]). -/
theorem Wl.clearTail {α : Type} {f : α → List Value} {Pb Pe : Nat → Prop} {xs : List α} {x lo : Operand} {t e sz bytes : Nat} {agg : Bool} {z v : Value} {k : IntKind} {g cap i : Nat} [ht : Und P t (.slice e)] [he : ElT P e sz bytes agg z] (hz : ∀ c ∈ z.cells.toList, c.oneCell' = true)
    (hown : OwnS (flat f) e sz Pb Pe w v xs) (hv : v = .slice (some ⟨g, 0, none⟩) xs.length cap) (hx : ev n F x = v) (hl : ev n F lo = .int k i) (hi : i ≤ xs.length) (hd : Nat.blt d1 n = true)
    (c : ∀ u w', OwnS (flat f) e sz Pb Pe w' (.slice (some ⟨g, 0, none⟩) i cap) (xs.take i) → Chg (fun b => v.ownBlock = some b) w w' → Wl P n ds Q ops rest (upd F d1 u) w') :
    Wl P n ds Q ops (⟨some d1, .slice t x (some lo) none none, ty1, pos1, aft1, none⟩ :: ⟨none, .call { callee := .builtin .clear, args := #[.tmp d1], argTypes := #[t] }, ty2, pos2, aft2, none⟩ :: rest) F w := by
  obtain ⟨_, cap', e1, hcap, _⟩ := hown.form
  have hcap2 : xs.length ≤ cap := by rw [hv] at e1; cases e1; exact hcap
  have hs := run_sliceS (P := P) (w := w) (p := some ⟨g, 0, none⟩) (l := xs.length) (cap := cap) (lo := some (.int k i)) (hi := none) (a := i) (b := xs.length) ht.h he (.inr ⟨k, rfl⟩) (.inl ⟨rfl, rfl⟩) hi hcap2
  have hp : (if cap = i then some (⟨g, 0, none⟩ : Addr) else Option.map (·.add (i * sz)) (some (⟨g, 0, none⟩ : Addr))) = some (if cap = i then ⟨g, 0, none⟩ else ⟨g, i * sz, none⟩) := by
    split
    · rfl
    · rw [Option.map_some, addr_add, Nat.zero_add]
  rw [hp] at hs
  obtain ⟨u, w', hr, ho, hc⟩ := run_clearTail (P := P) (ty := ty2) (w := w) ht.h he hz hown hv hi (if cap = i then ⟨g, 0, none⟩ else ⟨g, i * sz, none⟩) (by
    by_cases hci : cap = i
    · right; omega
    · left; rw [if_neg hci])
  refine Wl.val (w' := w) (v := .slice (some (if cap = i then ⟨g, 0, none⟩ else ⟨g, i * sz, none⟩)) (xs.length - i) (cap - i)) ?_ ?_
  · simp only [execOp, hx, hl, hv, Option.map_none, Option.map_some, Sem.run_bind, hs, Result.andThen_ok, Sem.run_pure]
  · refine Wl.valO (dst := none) (w' := w') (v := u) ?_ (c _ w' ho hc)
    have ed : ev n (upd F d1 (.slice (some (if cap = i then ⟨g, 0, none⟩ else ⟨g, i * sz, none⟩)) (xs.length - i) (cap - i))) (.tmp d1) = .slice (some (if cap = i then ⟨g, 0, none⟩ else ⟨g, i * sz, none⟩)) (xs.length - i) (cap - i) := by
      simp only [ev, hd, upd_eq, if_pos]
    simp only [execOp, resolve, invoke, builtin, Sem.run_bind, Sem.run_pure, Result.andThen_ok, List.map_toArray, List.map_cons, List.map_nil, ed, hr]
/-- x[:b], told. -/
theorem Wl.sliceToP {x hi : Operand} {t e sz bytes : Nat} {agg : Bool} {z : Value} {k : IntKind} {p : Option Addr} {l cap b : Nat} [ht : Und P t (.slice e)] [he : ElT P e sz bytes agg z] (hx : ev n F x = .slice p l cap) (hh : ev n F hi = .int k b) (h1 : b ≤ cap)
    (c : Wl P n ds Q ops rest (upd F d (.slice p b cap)) w) : Wl P n ds Q ops (⟨some d, .slice t x none (some hi) none, ty, pos, aft, none⟩ :: rest) F w := by
  have := run_sliceS (P := P) (w := w) (p := p) (l := l) (lo := none) (hi := some (.int k b)) (a := 0) (b := b) ht.h he (.inl ⟨rfl, rfl⟩) (.inr ⟨k, rfl⟩) (Nat.zero_le _) h1
  have hp : (if cap = 0 then p else p.map (·.add (0 * sz))) = p := by
    split
    · rfl
    · cases p with
      | none => rfl
      | some a => simp [Addr.add]
  refine Wl.val (w' := w) (v := .slice p b cap) ?_ c
  simp only [execOp, hx, hh, Option.map_none, Option.map_some, Sem.run_bind, this, Result.andThen_ok, Sem.run_pure, hp, Nat.sub_zero]
/-- What stands between two pieces of code, told: the ways of the first come together. -/
theorem Wc.cut {a b : Code} (M : Fr → World → Prop) (h1 : Wc P n ds (fun e F w => e = .normal ∧ M F w) a F w) (h2 : ∀ F w, M F w → Wc P n ds Q b F w) : Wc P n ds Q (.seq a b) F w := by
  unfold Wc at *
  refine wp_seq (wp_mono h1 ?_)
  rintro e a' w' ⟨F', rfl, he, hM⟩
  subst he
  exact h2 F' w' hM
end
end Go.Proofs.YthppadlcejpgbaaGreatDoor.Wk

namespace Go.Proofs.YthppadlcejpgbaaGreatDoor.Wk
open Go Go.RowKit

section
variable {P : Program} {ops : Array Oper} {C : World → Prop} {Q : Exit → Act → World → Prop}
def isQ (ops : Array Oper) (i : Nat) : Bool := match ops[i]? with | some o => readB o.op | none => false
/-- The walk in the text's order, by the operations' numbers. -/
def TS (P : Program) (ops : Array Oper) (C : World → Prop) (Q : Exit → Act → World → Prop) : List Nat → Act → World → Prop
  | [], a, w => Q .normal a w
  | i :: l, a, w => if isQ ops i = true then (∃ o v, ops[i]? = some o ∧ YieldsIn P ops C o v a ∧ TS P ops C Q l (a.put o.dst v) w)
    else if i + 1 = ops.size then wpOp P ops Q i (fun a' w' => Q .normal a' w') a w else wpOp P ops QF i (fun a' w' => C w' ∧ TS P ops C Q l a' w') a w
def wd (a : Act) (ds : List Deferred) : Act := { a with defers := ds }
theorem wd_self (a : Act) : wd a a.defers = a := rfl
theorem wd_put (a : Act) (d : Option Tmp) (v : Value) (ds : List Deferred) : wd (a.put d v) ds = (wd a ds).put d v := by cases d <;> rfl
/-- Two operations that may change places. -/
structure Free (ops : Array Oper) (i j : Nat) : Prop where
  ex : ∃ oi oj, ops[i]? = some oi ∧ ops[j]? = some oj ∧ oi.apart ops oj = true ∧ oj.apart ops oi = true ∧ (∀ cs b, oi.op ≠ .select cs b) ∧ (∀ cs b, oj.op ≠ .select cs b)
  one : isQ ops i = true ∨ isQ ops j = true
  nl : i + 1 ≠ ops.size

theorem yields_unput {oi oj : Oper} {v u : Value} {a : Act} (h : oi.apart ops oj = true) (hs : ∀ cs b, oj.op ≠ .select cs b) : YieldsIn P ops C oj v (a.put oi.dst u) ↔ YieldsIn P ops C oj v a := by
  obtain ⟨h1, _, _⟩ := Oper.apart_spec h
  have e1 := execOp_put oj hs a oi.dst u h1
  have e2 := wanted_put oj a oi.dst u h1
  exact ⟨fun y => y.of_same e1.symm e2.symm, fun y => y.of_same e1 e2⟩
theorem yields_wd {o : Oper} {v : Value} {a : Act} {ds : List Deferred} : YieldsIn P ops C o v (wd a ds) ↔ YieldsIn P ops C o v a := by
  have e : (wd a ds).eval = a.eval := by funext x; cases x <;> rfl
  exact ⟨fun y => y.of_same (by rw [e]) rfl, fun y => y.of_same (by rw [e]) rfl⟩
theorem yields_unique {o : Oper} {v v' : Value} {a : Act} {w : World} (hC : C w) (hr : readB o.op = true) (h : YieldsIn P ops C o v a) (h' : YieldsIn P ops C o v' a) : v = v' := by
  rcases h with ⟨hw, hv⟩ | ⟨hw, rfl⟩ <;> rcases h' with ⟨hw', hv'⟩ | ⟨hw', rfl⟩
  · have h1 := hv w hC
    have h2 := hv' w hC
    have hne := @noEnter P o hr a.eval w
    unfold Oper.quietAt at h1 h2
    generalize (execOp a.eval o).run P w = r at *
    cases r with
    | ok n w' =>
      cases n <;> simp only [Oper.quietUpon] at h1 h2
      case value u => first | exact h1.2.symm.trans h2.2 | exact h1.1.symm.trans h2.1
      case skip => first | exact h1.2.trans h2.2.symm | exact h1.2.symm.trans h2.2
      case enter f args => exact (hne rfl).elim
    | halt x w' => simp only [Oper.quietUpon] at h1
  · rw [hw] at hw'; cases hw'
  · rw [hw] at hw'; cases hw'
  · rfl
/-- A chain operation has an outcome. -/
theorem wpOp_exists {i : Nat} {o : Oper} {K : Act → World → Prop} {a : Act} {w : World} (hi : ops[i]? = some o) (h : wpOp P ops QF i K a w) : ∃ u ds' w', K ((wd a ds').put o.dst u) w' := by
  unfold wpOp at h
  simp only [hi] at h
  split at h
  · rcases h with h | ⟨_, _, _, hq⟩
    · unfold Oper.wp at h
      generalize hr : (execOp a.eval o).run P w = r at h
      cases r with
      | ok nx w' =>
        cases nx with
        | value u => exact ⟨u, a.defers, w', h⟩
        | skip => exact ⟨undef, a.defers, w', h⟩
        | enter f args =>
          obtain ⟨e, w'', fr, he, _⟩ := h []
          cases e with
          | returned u => exact ⟨u, a.defers, w'', he⟩
          | panicked c => exact he.elim
          | outgrown => obtain ⟨_, _, hq⟩ := he; exact hq.elim
        | row r' args =>
          obtain ⟨u, w'', he, _⟩ := h (Frame.enter P 0 #[] .normal) []
          exact ⟨u, a.defers, w'', he⟩
        | defer d => exact ⟨undef, d :: a.defers, w', h⟩
        | _ => exact h.elim
      | halt x w' => cases x <;> exact h.elim
    · exact hq.elim
  · exact ⟨undef, a.defers, w, h⟩
/-- What an operation does is the same where another's slot holds something else. -/
theorem wpOp_reput {i : Nat} {oi oj : Oper} {v : Value} {K K' : Act → World → Prop} {a : Act} {w : World} (hi : ops[i]? = some oi) (hap : oj.apart ops oi = true) (hs : ∀ cs b, oi.op ≠ .select cs b)
    (hK : ∀ u ds' w', K ((wd a ds').put oi.dst u) w' → K' (((wd a ds').put oj.dst v).put oi.dst u) w') (h : wpOp P ops QF i K a w) : wpOp P ops QF i K' (a.put oj.dst v) w := by
  obtain ⟨h1, h2, h3⟩ := Oper.apart_spec hap
  unfold wpOp at *
  simp only [hi] at *
  rw [wanted_put oi a oj.dst v h1]
  split
  · rename_i hw
    simp only [hw, if_true] at h
    rcases h with h | ⟨_, a₀, w₀, hq⟩
    · refine .inl ?_
      unfold Oper.wp at *
      rw [execOp_put oi hs a oj.dst v h1]
      generalize (execOp a.eval oi).run P w = r at *
      cases r with
      | ok nx w' =>
        cases nx with
        | value u => exact hK _ a.defers _ h
        | skip => exact hK _ a.defers _ h
        | enter f args => exact Calls.mono h (fun e w'' he => by cases e with | returned u => exact hK _ a.defers _ he | panicked c => exact he.elim | outgrown => obtain ⟨a₀, w₀, hq⟩ := he; exact hq.elim)
        | row r' args => exact Rows.mono h (fun _ _ he => hK _ a.defers _ he)
        | defer d =>
          have := hK undef (d :: a.defers) _ h
          rw [← wd_put a oj.dst v] at this
          have e : (a.put oj.dst v).defers = a.defers := by cases oj.dst <;> rfl
          simp only [Oper.upon, e]
          exact this
        | _ => exact h.elim
      | halt x w' => cases x <;> exact h.elim
    · exact hq.elim
  · rename_i hw
    simp only [hw] at h
    exact hK _ a.defers _ h

theorem TS_quiet {j : Nat} {oj : Oper} {post : List Nat} (hj : ops[j]? = some oj) (hq : isQ ops j = true) : ∀ (pre : List Nat) (a : Act) (w : World), (∀ i ∈ pre, Free ops i j) → C w → TS P ops C Q (pre ++ j :: post) a w →
    ∃ v, YieldsIn P ops C oj v a ∧ TS P ops C Q (pre ++ post) (a.put oj.dst v) w
  | [], a, w, _, _, h => by
    rw [List.nil_append, TS, if_pos hq] at h
    obtain ⟨o, v, ho, hy, ht⟩ := h
    rw [hj] at ho
    cases ho
    exact ⟨v, hy, ht⟩
  | i :: pre, a, w, hf, hC, h => by
    obtain ⟨⟨oi, oj', hi, hj', h1, h2, s1, s2⟩, _, hnl⟩ := hf i (by simp)
    rw [hj] at hj'
    cases hj'
    have hrj : readB oj.op = true := by unfold isQ at hq; rw [hj] at hq; exact hq
    obtain ⟨_, hne, _⟩ := Oper.apart_spec h1
    rw [List.cons_append, TS] at h
    by_cases hqi : isQ ops i = true
    · rw [if_pos hqi] at h
      obtain ⟨o, vi, ho, hy, ht⟩ := h
      rw [hi] at ho
      cases ho
      obtain ⟨v, hyv, hts⟩ := TS_quiet hj hq pre _ w (fun k hk => hf k (by simp [hk])) hC ht
      refine ⟨v, (yields_unput h1 s2).1 hyv, ?_⟩
      rw [List.cons_append, TS, if_pos hqi]
      refine ⟨oi, vi, hi, (yields_unput h2 s1).2 hy, ?_⟩
      rw [← Act.put_comm a vi v hne]
      exact hts
    · rw [if_neg hqi, if_neg hnl] at h
      obtain ⟨u, ds', w', hC', ht'⟩ := wpOp_exists hi h
      obtain ⟨v, hyv, _⟩ := TS_quiet hj hq pre _ w' (fun k hk => hf k (by simp [hk])) hC' ht'
      have hya := yields_wd.1 ((yields_unput h1 s2).1 hyv)
      have key : wpOp P ops QF i (fun a' w' => C w' ∧ TS P ops C Q (pre ++ post) a' w') (a.put oj.dst v) w := by
        refine wpOp_reput hi h2 s1 ?_ h
        rintro u' ds1 w1 ⟨hC1, ht1⟩
        obtain ⟨v1, hy1, hts1⟩ := TS_quiet hj hq pre _ w1 (fun k hk => hf k (by simp [hk])) hC1 ht1
        have : v1 = v := yields_unique hC1 hrj (yields_wd.1 ((yields_unput h1 s2).1 hy1)) hya
        subst this
        refine ⟨hC1, ?_⟩
        rw [← Act.put_comm (wd a ds1) u' v1 hne]
        exact hts1
      refine ⟨v, hya, ?_⟩
      rw [List.cons_append, TS, if_neg hqi, if_neg hnl]
      exact key
/-- An operation that may come up now may be taken first. -/
theorem TS_first {j : Nat} {post : List Nat} (hjn : j < ops.size) : ∀ (pre : List Nat) (a : Act) (w : World), (∀ i ∈ pre, Free ops i j) → (isQ ops j = false → j + 1 = ops.size → pre = [] ∧ post = []) → C w → TS P ops C Q (pre ++ j :: post) a w →
    (isQ ops j = false ∧ pre ++ post = [] ∧ wpOp P ops Q j (fun a' w' => Q .normal a' w') a w) ∨ wpOp P ops QF j (fun a' w' => C w' ∧ TS P ops C Q (pre ++ post) a' w') a w := by
  intro pre a w hf hlast hC h
  obtain ⟨oj, hj⟩ : ∃ oj, ops[j]? = some oj := ⟨ops[j], Array.getElem?_eq_getElem hjn⟩
  cases hq : isQ ops j with
  | true =>
    obtain ⟨v, hy, ht⟩ := TS_quiet hj hq pre a w hf hC h
    have hrj : readB oj.op = true := by unfold isQ at hq; rw [hj] at hq; exact hq
    exact .inr (YieldsS.wpOp hj hy hrj hC ⟨hC, ht⟩)
  | false =>
    have hl := hlast hq
    clear hlast
    by_cases hpost : j + 1 = ops.size
    · obtain ⟨rfl, rfl⟩ := hl hpost
      rw [List.nil_append, TS, if_neg (by rw [hq]; simp), if_pos hpost] at h
      exact .inl ⟨rfl, rfl, h⟩
    · right
      clear hl
      induction pre generalizing a with
      | nil =>
        rw [List.nil_append, TS, if_neg (by rw [hq]; simp), if_neg hpost] at h
        exact h
      | cons i pre ih =>
        obtain ⟨⟨oi, oj', hi, hj', h1, h2, s1, s2⟩, hone, _⟩ := hf i (by simp)
        rw [hj] at hj'
        cases hj'
        have hqi : isQ ops i = true := by rcases hone with h | h; exact h; rw [hq] at h; cases h
        rw [List.cons_append, TS, if_pos hqi] at h
        obtain ⟨o, vi, ho, hy, ht⟩ := h
        rw [hi] at ho
        cases ho
        have := ih _ (fun k hk => hf k (by simp [hk])) ht
        refine wpOp_mono (fun a' w' h' => ?_) (wpOp_put hj h1 s1 s2 hy this)
        obtain ⟨hy', hC', ht'⟩ := h'
        refine ⟨hC', ?_⟩
        rw [List.cons_append, TS, if_pos hqi]
        exact ⟨oi, vi, hi, hy', ht'⟩

/-! All that must come ahead of an operation. -/
def okPair (ops : Array Oper) (i j : Nat) : Bool := (ahead ops ops.size [j]).contains i ||
  ((isQ ops i || isQ ops j) && match ops[i]?, ops[j]? with | some oi, some oj => oi.apart ops oj && oj.apart ops oi | _, _ => false)
def okT (ops : Array Oper) : Bool :=
  Region.noSelect ops && (List.range ops.size).all (fun j => (List.range j).all fun i => okPair ops i j) &&
  (List.range ops.size).all (fun j => match ops[j]? with | some o => o.after.all fun e => !Region.binds .any e || decide (e.on < j) | none => true) &&
  (isQ ops (ops.size - 1) || (List.range ops.size).all fun k => (ahead ops ops.size [ops.size - 1]).contains k)
def left (ops : Array Oper) (listed : Array Bool) : List Nat := (List.range ops.size).filter fun i => !listed.getD i true
theorem left_set {listed : Array Bool} {i : Nat} (hs : listed.size = ops.size) (hi : i < ops.size) : left ops (listed.setIfInBounds i true) = (left ops listed).filter (fun k => k != i) := by
  unfold left
  rw [List.filter_filter]
  apply List.filter_congr
  intro k hk
  by_cases hki : k = i
  · subst hki
    simp [Array.getD_eq_getD_getElem?, hs, hi]
  · have h1 := getD_set_ne (listed := listed) (i := i) (j := k) true (Ne.symm hki)
    rw [h1]
    simp [hki]
theorem nodup_filter {l pre post : List Nat} {i : Nat} (h : l.Nodup) (e : l = pre ++ i :: post) : l.filter (fun k => k != i) = pre ++ post := by
  subst e
  have h' := List.nodup_append.1 h
  have hi : i ∉ post := (List.nodup_cons.1 h'.2.1).1
  have hp : i ∉ pre := fun hm => h'.2.2 i hm i (by simp) rfl
  rw [List.filter_append, List.filter_cons, if_neg (by simp)]
  congr 1
  · refine List.filter_eq_self.2 fun k hk => ?_
    have : k ≠ i := fun e => hp (by rw [← e]; exact hk)
    simpa using this
  · refine List.filter_eq_self.2 fun k hk => ?_
    have : k ≠ i := fun e => hi (by rw [← e]; exact hk)
    simpa using this
theorem wpAny_of_TS (hok : okT ops = true) : ∀ (fuel : Nat) (listed : Array Bool) (a : Act) (w : World), listed.size = ops.size → (left ops listed).length = fuel → Clos ops listed → (fuel ≠ 0 → C w) → TS P ops C Q (left ops listed) a w → wpAny P .any ops Q fuel listed a w := by
  simp only [okT, Bool.and_eq_true] at hok
  obtain ⟨⟨⟨hns, hpair⟩, hdown⟩, hlast⟩ := hok
  have hsel := Region.noSelect_spec hns
  have rdy : ∀ listed : Array Bool, listed.size = ops.size → ∀ i, i ∈ Region.ready .any ops listed → i ∈ left ops listed := by
    intro listed hs i hi
    obtain ⟨h0, o, ho, _⟩ := mem_ready.1 hi
    unfold left
    rw [List.mem_filter, List.mem_range]
    exact ⟨(Array.getElem?_eq_some_iff.1 ho).1, by simp [h0]⟩
  intro fuel
  induction fuel with
  | zero =>
    intro listed a w hs hl hcl hC h
    have hnil : left ops listed = [] := List.eq_nil_of_length_eq_zero hl
    rw [hnil] at h
    refine ⟨?_, h⟩
    rw [List.eq_nil_iff_forall_not_mem]
    intro i hi
    have := rdy listed hs i hi
    rw [hnil] at this
    cases this
  | succ fuel ih =>
    intro listed a w hs hl hcl hC h
    replace hC := hC (by simp)
    refine ⟨fun h0 => ?_, fun j hj => ?_⟩
    · exfalso
      cases hL : left ops listed with
      | nil => rw [hL] at hl; cases hl
      | cons i l =>
        have hmem : i ∈ left ops listed := by rw [hL]; simp
        have hmem' := hmem
        unfold left at hmem
        rw [List.mem_filter, List.mem_range] at hmem
        have hall : ∀ k, k < i → listed.getD k false = true := by
          intro k hk
          have hks : k < ops.size := by omega
          cases hb : listed.getD k true with
          | true => simpa [Array.getD_eq_getD_getElem?, hs, hks] using hb
          | false =>
            have hkm : k ∈ left ops listed := by unfold left; rw [List.mem_filter, List.mem_range]; exact ⟨hks, by simp [hb]⟩
            have hsort : (left ops listed).Pairwise (· < ·) := List.Pairwise.sublist List.filter_sublist List.pairwise_lt_range
            rw [hL] at hkm hsort
            rcases List.mem_cons.1 hkm with e | e
            · omega
            · have := (List.pairwise_cons.1 hsort).1 k e; omega
        have : i ∈ Region.ready .any ops listed := by
          refine mem_ready.2 ⟨by simpa using hmem.2, ops[i], Array.getElem?_eq_getElem hmem.1, fun e he hb => ?_⟩
          have h3 := List.all_eq_true.1 hdown i (List.mem_range.2 hmem.1)
          rw [Array.getElem?_eq_getElem hmem.1] at h3
          have h4 := Array.all_eq_true'.1 h3 e he
          rw [hb] at h4
          exact hall e.on (by simpa using h4)
        rw [h0] at this
        cases this
    · obtain ⟨pre, post, hL⟩ := List.append_of_mem (rdy listed hs j hj)
      rw [hL] at h
      obtain ⟨_, oj, hoj, _⟩ := mem_ready.1 hj
      have hjs : j < ops.size := (Array.getElem?_eq_some_iff.1 hoj).1
      have hnd : (left ops listed).Nodup := List.Nodup.sublist List.filter_sublist List.nodup_range
      have hsort : (left ops listed).Pairwise (· < ·) := List.Pairwise.sublist List.filter_sublist List.pairwise_lt_range
      have hunl : ∀ i ∈ left ops listed, i < ops.size ∧ listed.getD i true = false := fun i hi => by
        unfold left at hi
        rw [List.mem_filter, List.mem_range] at hi
        exact ⟨hi.1, by simpa using hi.2⟩
      have hbehind : ∀ k, k ∈ ahead ops ops.size [j] → k = j ∨ listed.getD k false = true := ahead_spec hcl hj _ _ (by simp)
      have hfree : ∀ i ∈ pre, Free ops i j := by
        intro i hi
        have him : i ∈ left ops listed := by rw [hL]; simp [hi]
        obtain ⟨his, hun⟩ := hunl i him
        have hij : i < j := by rw [hL] at hsort; exact (List.pairwise_append.1 hsort).2.2 i hi j (by simp)
        have h3 := List.all_eq_true.1 (List.all_eq_true.1 hpair j (List.mem_range.2 hjs)) i (List.mem_range.2 hij)
        unfold okPair at h3
        simp only [Bool.or_eq_true, Bool.and_eq_true, Array.getElem?_eq_getElem his, Array.getElem?_eq_getElem hjs] at h3
        rcases h3 with h3 | ⟨h3, h4, h5⟩
        · exfalso
          rcases hbehind i (by simpa using h3) with e | e
          · omega
          · simp [Array.getD_eq_getD_getElem?, hs, his] at hun e
            rw [hun] at e; cases e
        · exact ⟨⟨_, _, Array.getElem?_eq_getElem his, Array.getElem?_eq_getElem hjs, h4, h5, fun cs b => hsel i _ cs b (Array.getElem?_eq_getElem his), fun cs b => hsel j _ cs b (Array.getElem?_eq_getElem hjs)⟩, h3, by omega⟩
      have hlst : isQ ops j = false → j + 1 = ops.size → pre = [] ∧ post = [] := by
        intro hq hje
        have hj1 : ops.size - 1 = j := by omega
        rw [hj1, hq, Bool.false_or] at hlast
        have all : ∀ i ∈ left ops listed, i = j := fun i hi => by
          obtain ⟨his, hun⟩ := hunl i hi
          rcases hbehind i (by simpa using List.all_eq_true.1 hlast i (List.mem_range.2 his)) with e | e
          · exact e
          · simp [Array.getD_eq_getD_getElem?, hs, his] at hun e
            rw [hun] at e; cases e
        rw [hL] at all hnd
        have h' := List.nodup_append.1 hnd
        constructor
        · cases pre with
          | nil => rfl
          | cons i pre => exact absurd (all i (by simp)) (h'.2.2 i (by simp) j (by simp))
        · cases post with
          | nil => rfl
          | cons i post =>
            have := all i (by simp)
            subst this
            exact absurd (by simp) (List.nodup_cons.1 h'.2.1).1
      have hset : left ops (listed.setIfInBounds j true) = pre ++ post := by rw [left_set hs hjs]; exact nodup_filter hnd hL
      have hlen : (pre ++ post).length = fuel := by have := hl; rw [hL] at this; simp at this ⊢; omega
      have hcl' := hcl.set hj
      rcases TS_first hjs pre a w hfree hlst hC h with ⟨_, he, hw⟩ | hw
      · refine wpOp_mono (fun a' w' h' => ih _ a' w' (by simpa using hs) (by rw [hset]; exact hlen) hcl' (fun hne => ?_) ?_) hw
        · rw [he] at hlen; exact absurd hlen.symm hne
        · rw [hset, he]; exact h'
      · exact wpOp_of_QF (fun a' w' h' => ih _ a' w' (by simpa using hs) (by rw [hset]; exact hlen) hcl' (fun _ => h'.1) (by rw [hset]; exact h'.2)) hw
end

section
variable {P : Program} {n : Nat} {ds : List Deferred} {Q : Po} {F : Fr} {ops : List Oper} {C : World → Prop} {w : World}
/-- The walk in the text's order: what only reads holds in every world of the class; each other operation but the last leaves a world of the class. -/
def Wt (P : Program) (n : Nat) (ds : List Deferred) (C : World → Prop) (Q : Po) (ops : List Oper) : List Oper → Fr → World → Prop
  | [], F, w => Q .normal F w
  | o :: l, F, w => if readB o.op = true then Wq P n ds C (fun F' => Wt P n ds C Q ops l F' w) ops [o] F
    else if l.isEmpty = true then Wl P n ds Q ops [o] F w else Wl P n ds (fun e F' w' => e = .normal ∧ C w' ∧ Wt P n ds C Q ops l F' w') ops [o] F w
theorem Wt.nil (h : Q .normal F w) : Wt P n ds C Q ops [] F w := h
theorem Wt.quiet {o : Oper} {l : List Oper} (hr : readB o.op = true) (h : Wq P n ds C (fun F' => Wt P n ds C Q ops l F' w) ops [o] F) : Wt P n ds C Q ops (o :: l) F w := by
  unfold Wt; rw [if_pos hr]; exact h
theorem Wt.chain {o o2 : Oper} {l : List Oper} (hr : readB o.op = false) (h : Wl P n ds (fun e F' w' => e = .normal ∧ C w' ∧ Wt P n ds C Q ops (o2 :: l) F' w') ops [o] F w) : Wt P n ds C Q ops (o :: o2 :: l) F w := by
  unfold Wt; rw [if_neg (by rw [hr]; simp), if_neg (by simp)]; exact h
theorem Wt.last {o : Oper} (hr : readB o.op = false) (h : Wl P n ds Q ops [o] F w) : Wt P n ds C Q ops [o] F w := by
  unfold Wt; rw [if_neg (by rw [hr]; simp), if_pos List.isEmpty_nil]; exact h
theorem Wt.guardY {o : Oper} {l : List Oper} {j : Nat} {b : Bool} (hg : o.guard = some (j, b)) (hy : yld ops n F j = some b) (h : Wt P n ds C Q ops ({ o with guard := none } :: l) F w) : Wt P n ds C Q ops (o :: l) F w := by
  unfold Wt at h ⊢
  split
  · rename_i hr
    rw [if_pos hr] at h
    exact Wq.guardY hg hy h
  · rename_i hr
    rw [if_neg hr] at h
    split
    · rename_i he; rw [if_pos he] at h; exact Wl.guardY hg hy h
    · rename_i he; rw [if_neg he] at h; exact Wl.guardY hg hy h
theorem Wt.guardN {op : Op} {d : Nat} {ty : TypeId} {pos : String} {aft : Array Edge} {l : List Oper} {j : Nat} {b c : Bool} (hy : yld ops n F j = some c) (hbc : (c == b) = false) (hC : C w) (h : Wt P n ds C Q ops l (upd F d undef) w) :
    Wt P n ds C Q ops (⟨some d, op, ty, pos, aft, some (j, b)⟩ :: l) F w := by
  unfold Wt
  split
  · exact Wq.guardN hy hbc (Wq.nil h)
  · split
    · rename_i he
      have : l = [] := by simpa using he
      subst this
      unfold Wt at h
      exact Wl.guardN hy hbc (Wl.nil h)
    · exact Wl.guardN hy hbc (Wl.nil ⟨rfl, hC, h⟩)
theorem TS_of_Wt : ∀ (l : List Oper) (k : Nat) (F : Fr) (w : World), (∀ j, l[j]? = ops[k + j]?) → Wt P n ds C Q ops l F w → TS P ops.toArray C (QA n ds Q) ((List.range l.length).map (k + ·)) (act n ds F) w
  | [], k, F, w, _, h => ⟨F, rfl, h⟩
  | o :: l, k, F, w, hl, h => by
    have h0 : ops[k]? = some o := by simpa using (hl 0).symm
    have h0' : ops.toArray[k]? = some o := by simpa using h0
    have hl' : ∀ j, l[j]? = ops[k + 1 + j]? := fun j => by have := hl (j + 1); simpa [Nat.add_assoc, Nat.add_comm 1 j] using this
    have e1 : (List.range (o :: l).length).map (k + ·) = k :: (List.range l.length).map (k + 1 + ·) := by
      rw [List.length_cons, List.range_succ_eq_map, List.map_cons, List.map_map, Nat.add_zero]
      congr 1
      apply List.map_congr_left
      intro j _
      show k + (j + 1) = k + 1 + j
      omega
    have hlen : (k + 1 = ops.toArray.size) ↔ l = [] := by
      have h2 := hl' 0
      constructor
      · intro e
        have hz : ops.toArray.size = ops.length := by simp
        have hz2 : ops.length ≤ k + 1 + 0 := by omega
        rw [List.getElem?_eq_none hz2] at h2
        cases l with
        | nil => rfl
        | cons _ _ => simp at h2
      · intro e
        subst e
        have hk := (List.getElem?_eq_some_iff.1 h0).1
        have : ops[k + 1 + 0]? = none := by rw [← h2]; rfl
        have := List.getElem?_eq_none_iff.1 this
        simp; omega
    have hq : isQ ops.toArray k = readB o.op := by unfold isQ; rw [h0']
    rw [e1, TS, hq]
    unfold Wt at h
    split
    · rename_i hr
      rw [if_pos hr] at h
      unfold Wq at h
      have hst : qOp P ops.toArray C k (fun a => ∃ F', a = act n ds F' ∧ Wt P n ds C Q ops l F' w) (act n ds F) := by unfold qOp; simp only [h0']; exact h
      obtain ⟨v, hy, F', hF, hw⟩ := yieldsIn_of_qOp h0' hst
      refine ⟨o, v, h0', hy, ?_⟩
      rw [hF]
      exact TS_of_Wt l (k + 1) F' w hl' hw
    · rename_i hr
      rw [if_neg hr] at h
      split
      · rename_i he
        have := hlen.1 he
        subst this
        rw [if_pos List.isEmpty_nil] at h
        exact wpOp_of_Wl h0 h
      · rename_i he
        rw [if_neg (by simpa using fun e => he (hlen.2 e))] at h
        refine wpOp_noQ ?_ ?_ (wpOp_of_Wl h0 h)
        · rintro e a' w' hne ⟨F', _, h', _⟩; exact hne h'
        · rintro a' w' ⟨F', rfl, _, hC, h'⟩
          exact ⟨hC, TS_of_Wt l (k + 1) F' w' hl' h'⟩
/-- A region that draws its order, by one walk in the text's order. -/
theorem Wc.regionT {rid : Nat} (hm : P.follows .mixedOrders = true) (hB : okT ops.toArray = true) (C : World → Prop) (hC : C w.drew) (h : ∀ w', New w w' → Wt P n ds C Q ops ops F w') : Wc P n ds Q (.region rid ops.toArray true) F w := by
  unfold Wc
  refine wp_region_any hm ?_
  have hleft : left ops.toArray (Array.replicate ops.toArray.size false) = (List.range ops.length).map (0 + ·) := by
    unfold left
    rw [show ((fun x => 0 + x) : Nat → Nat) = id from funext fun x => Nat.zero_add x, List.map_id]
    simp only [List.size_toArray]
    refine List.filter_eq_self.2 fun k hk => ?_
    have := List.mem_range.1 hk
    simp [Array.getD_eq_getD_getElem?, Array.getElem?_replicate, this]
  have h0 : Clos ops.toArray (Array.replicate ops.toArray.size false) := by
    intro j o hj
    exfalso
    simp only [Array.getD_eq_getD_getElem?, Array.getElem?_replicate] at hj
    split at hj <;> simp at hj
  refine wpAny_of_TS (C := C) hB _ _ _ _ (by simp) (by rw [hleft]; simp) h0 (fun _ => hC) ?_
  rw [hleft]
  exact TS_of_Wt ops 0 F w.drew (fun j => by rw [Nat.zero_add]) (h _ (Chg.drew _ _))
end
attribute [irreducible] Wt
end Go.Proofs.YthppadlcejpgbaaGreatDoor.Wk

namespace Go.Proofs.YthppadlcejpgbaaGreatDoor.Wk
open Go Go.RowKit

section
variable {P : Program} {n : Nat} {ds : List Deferred} {Q : Po} {F : Fr} {w w' : World} {M : Fr → World → Prop}
def Qm (M : Fr → World → Prop) (Q : Po) : Po
  | .normal, F, w => M F w
  | e, F, w => Q e F w
theorem Qm.normal (h : M F w) : Qm M Q .normal F w := h
theorem Qm.ret (h : Q .ret F w) : Qm M Q .ret F w := h
theorem Qm.exit {id : Nat} (h : Q (.exit id) F w) : Qm M Q (.exit id) F w := h
theorem Qm.panic {c : List PanicEntry} (h : Q (.panic c) F w) : Qm M Q (.panic c) F w := h
theorem Wc.cutR {a b : Code} (M : Fr → World → Prop) (h1 : Wc P n ds (Qm M Q) a F w) (h2 : ∀ F w, M F w → Wc P n ds Q b F w) : Wc P n ds Q (.seq a b) F w := by
  unfold Wc at *
  refine wp_seq (wp_mono h1 ?_)
  rintro e a' w' ⟨F', rfl, hM⟩
  cases e with
  | normal => exact h2 F' w' hM
  | _ => exact ⟨F', rfl, hM⟩
attribute [irreducible] Qm
end
section
variable {P : Program} {n : Nat} {ds : List Deferred} {Q : Po} {F : Fr} {w w' : World} {ops rest : List Oper} {d : Nat} {ty : TypeId} {pos : String} {aft : Array Edge} {C : World → Prop} {K : Fr → Prop}
/-- Behind a test that was not made. -/
theorem Wl.guardU {op : Op} {j : Nat} {b : Bool} (hy : yld ops n F j = none) (k : Wl P n ds Q ops rest (upd F d undef) w) : Wl P n ds Q ops (⟨some d, op, ty, pos, aft, some (j, b)⟩ :: rest) F w := by
  have hw : Region.wanted ⟨some d, op, ty, pos, aft, some (j, b)⟩ (yielded ops.toArray (act n ds F).tmps) = false := by
    simp only [Region.wanted, act, yielded_eq, hy]; rfl
  unfold Wl at k ⊢
  rw [wpList, if_neg (by rw [hw]; simp), act_put]
  exact k
theorem Wq.guardU {op : Op} {j : Nat} {b : Bool} (hy : yld ops n F j = none) (k : Wq P n ds C K ops rest (upd F d undef)) : Wq P n ds C K ops (⟨some d, op, ty, pos, aft, some (j, b)⟩ :: rest) F := by
  have hw : Region.wanted ⟨some d, op, ty, pos, aft, some (j, b)⟩ (yielded ops.toArray (act n ds F).tmps) = false := by
    simp only [Region.wanted, act, yielded_eq, hy]; rfl
  unfold Wq at k ⊢
  rw [wpQuiet, if_neg (by rw [hw]; simp), act_put]
  exact k
theorem Wt.guardU {op : Op} {l : List Oper} {j : Nat} {b : Bool} (hy : yld ops n F j = none) (hC : C w) (h : Wt P n ds C Q ops l (upd F d undef) w) :
    Wt P n ds C Q ops (⟨some d, op, ty, pos, aft, some (j, b)⟩ :: l) F w := by
  unfold Wt
  split
  · exact Wq.guardU hy (Wq.nil h)
  · split
    · rename_i he
      have : l = [] := by simpa using he
      subst this
      unfold Wt at h
      exact Wl.guardU hy (Wl.nil h)
    · exact Wl.guardU hy (Wl.nil ⟨rfl, hC, h⟩)
end
end Go.Proofs.YthppadlcejpgbaaGreatDoor.Wk

namespace Go.Proofs.YthppadlcejpgbaaGreatDoor.Wk
open Go Go.RowKit

def numb : Nat → List Value → List (Nat × Value)
  | _, [] => []
  | k, u :: us => (k, u) :: numb (k + 1) us
theorem fill_dense (sz : Nat) : ∀ (us : List Value) (k : Nat) (pre zs : List Value), pre.length = k * sz → zs.length = us.length * sz → (∀ u ∈ us, u.cells.size = sz) →
    Instr.fill (fun i => some (i * sz, sz)) (pre ++ zs).toArray (numb k us) = some (pre ++ us.flatMap fun u => u.cells.toList).toArray
  | [], k, pre, zs, hp, hz, _ => by
    have : zs = [] := List.eq_nil_of_length_eq_zero (by simpa using hz)
    subst this
    simp [numb, Instr.fill]
  | u :: us, k, pre, zs, hp, hz, h => by
    have hu := h u (by simp)
    simp only [List.length_cons, Nat.add_mul, Nat.one_mul] at hz
    simp only [numb, Instr.fill, hu]
    rw [if_neg (by simp; omega)]
    have hsp : zs = zs.take sz ++ zs.drop sz := (List.take_append_drop sz zs).symm
    have h1 := foldl_fill (k * sz) u.cells.toList 0 pre (zs.drop sz) (zs.take sz) (by simp [hu]; omega) (by omega)
    rw [List.append_assoc, ← hsp] at h1
    rw [← Array.foldl_toList, Array.toList_zipIdx]
    have h2 : List.foldl (fun (cs : Array Value) (x : Value × Nat) => match x with | (c, j) => cs.setIfInBounds (k * sz + j) c) (pre ++ zs).toArray (u.cells.toList.zipIdx) = (pre ++ u.cells.toList ++ zs.drop sz).toArray := h1
    rw [h2, fill_dense sz us (k + 1) (pre ++ u.cells.toList) (zs.drop sz) (by simp [hu, hp, Nat.add_mul]) (by simp; omega) fun v hv => h v (by simp [hv])]
    simp
def AllR {α : Type} (R : Rel α) (sz : Nat) (Pb : Nat → Prop) (w : World) : List α → List Value → Prop
  | [], [] => True
  | x :: xs, u :: us => u.cells.size = sz ∧ R Pb w x u.cells.toList ∧ AllR R sz Pb w xs us
  | _, _ => False
theorem AllR.length {α : Type} {R : Rel α} {sz : Nat} {Pb : Nat → Prop} {w : World} : ∀ {xs : List α} {us : List Value}, AllR R sz Pb w xs us → us.length = xs.length ∧ ∀ u ∈ us, u.cells.size = sz
  | [], [], _ => ⟨rfl, by simp⟩
  | x :: xs, u :: us, h => by
    obtain ⟨h1, _, h2⟩ := h
    have := h2.length
    exact ⟨by simp [this.1], fun v hv => by rcases List.mem_cons.1 hv with rfl | hv; exact h1; exact this.2 v hv⟩
  | [], _ :: _, h => h.elim
  | _ :: _, [], h => h.elim
theorem AllR.get {α : Type} {R : Rel α} {sz : Nat} {Pb : Nat → Prop} {w : World} : ∀ {xs : List α} {us : List Value} {i : Nat} {x : α}, AllR R sz Pb w xs us → xs[i]? = some x → R Pb w x (((us.flatMap fun u => u.cells.toList).drop (i * sz)).take sz)
  | [], [], i, x, _, h => by simp at h
  | y :: xs, u :: us, i, x, h, hx => by
    obtain ⟨h1, h2, h3⟩ := h
    have hl : u.cells.toList.length = sz := by simpa using h1
    cases i with
    | zero =>
      simp at hx
      subst hx
      simp only [List.flatMap_cons, Nat.zero_mul, List.drop_zero]
      rw [List.take_append_of_le_length (by omega), List.take_of_length_le (by omega)]
      exact h2
    | succ i =>
      have := h3.get (i := i) (by simpa using hx)
      rw [List.flatMap_cons, List.drop_append, List.drop_eq_nil_of_le (show u.cells.toList.length ≤ (i + 1) * sz by rw [hl, Nat.add_mul]; omega), List.nil_append, hl, Nat.add_mul, Nat.one_mul, Nat.add_sub_cancel]
      exact this
  | [], _ :: _, _, _, h, _ => h.elim
  | _ :: _, [], _, _, h, _ => h.elim
section
variable {P : Program} {n : Nat} {ds : List Deferred} {Q : Po} {F : Fr} {w w' : World} {ops rest : List Oper} {d d1 d2 : Nat} {ty ty1 ty2 : TypeId} {pos pos1 pos2 : String} {aft aft1 aft2 : Array Edge}
theorem flat_len {us : List Value} {sz : Nat} (h : ∀ u ∈ us, u.cells.size = sz) : (us.flatMap fun u => u.cells.toList).length = us.length * sz := by
  induction us with
  | nil => simp
  | cons u us ih => simp [ih fun v hv => h v (by simp [hv]), h u (by simp), Nat.add_mul]; omega
theorem run_buildSliceN {t e : TypeId} {sz bytes : Nat} {agg : Bool} {z : Value} {us : List Value} (ht : P.underlying t = some (.slice e)) (he : ElT P e sz bytes agg z) (hv : ∀ u ∈ us, u.cells.size = sz) (hs : 0 < us.length * sz) (hs2 : us.length * sz ≤ 16777216) :
    (Instr.buildSlice t us.length (numb 0 us).toArray).run P w = .ok (.slice (some ⟨w.heap.size, 0, none⟩) us.length us.length) (w.alloc (.cells (us.flatMap fun u => u.cells.toList).toArray e)) := by
  have hne : ¬ us.length * sz = 0 := by omega
  have hz := he.hz
  have e3 := fill_dense sz us 0 [] (((List.range (us.length * sz)).map fun i => z.cells[i % z.cells.size]!)) (by simp) (by simp) hv
  have e4 : (Array.range (us.length * sz)).map (fun i => z.cells[i % z.cells.size]!) = (((List.range (us.length * sz)).map fun i => z.cells[i % z.cells.size]!)).toArray := by
    apply Array.ext'
    simp [Array.toList_range]
  rw [List.nil_append, List.nil_append, ← e4] at e3
  simp only [Instr.buildSlice, Sem.run_bind, run_underlying ht, Result.andThen_ok, he.sizeOf]
  rw [if_neg (by omega), if_neg hne]
  simp only [Sem.run_bind, Result.andThen_ok, he.zeroValue, Sem.run_pure, e3, newRow, run_newObj]
  rfl
/-- []T{a, b, ..}, a list of one's own. -/
theorem Wl.buildSliceN {α : Type} {R : Rel α} {N : Nat} {ps : List (Nat × Operand)} {t e : TypeId} {sz bytes : Nat} {agg : Bool} {z : Value} {xs : List α} {us : List Value} {Pe : Nat → Prop} (hR : GoodR R sz) [ht : Und P t (.slice e)] [he : ElT P e sz bytes agg z] (hN : us.length = N) (hps : ps.map (fun p => (p.1, ev n F p.2)) = numb 0 us)
    (h : AllR R sz (fun b => Pe b ∧ w.heap.size ≠ b) w xs us) (hsz : 0 < us.length * sz) (hsz2 : us.length * sz ≤ 16777216)
    (c : ∀ v w', OwnS R e sz (fun b => b = w.heap.size) Pe w' v xs → New w w' → w'.heap.size = w.heap.size + 1 → v.ownBlock = some w.heap.size → Wl P n ds Q ops rest (upd F d v) w') :
    Wl P n ds Q ops (⟨some d, .buildSlice t N ps.toArray, ty, pos, aft, none⟩ :: rest) F w := by
  subst hN
  obtain ⟨hl, hall⟩ := h.length
  have hr := run_buildSliceN (P := P) (w := w) ht.h he hall hsz hsz2
  have hn : New w (w.alloc (.cells (us.flatMap fun u => u.cells.toList).toArray e)) := Chg.alloc _ _ _
  refine Wl.val (w' := w.alloc (.cells (us.flatMap fun u => u.cells.toList).toArray e)) ?_ (c _ _ ⟨us.flatMap fun u => u.cells.toList, ⟨by rw [flat_len hall, hl], .inr ⟨w.heap.size, us.length, (us.flatMap fun u => u.cells.toList).toArray, by rw [hl], rfl, heap_alloc_new w _, by omega, ?_, by simpa using flat_len hall, ?_⟩⟩, fun i x hx => ?_⟩ hn (by simp) rfl)
  · simp only [execOp, List.map_toArray, hps, Sem.run_bind, hr, Result.andThen_ok, Sem.run_pure]
    rw [hl]
  · have : 0 < sz := by rcases Nat.eq_zero_or_pos sz with h0 | h0; rw [h0] at hsz; simp at hsz; exact h0
    have : us.length * 1 ≤ us.length * sz := Nat.mul_le_mul_left _ this
    unfold maxLen; omega
  · show List.take (xs.length * sz) (us.flatMap fun u => u.cells.toList) = _
    rw [← hl, ← flat_len hall, List.take_length]
  · have h1 := hR.st _ _ _ _ _ hn.keep (h.get hx)
    exact hR.mo _ _ _ _ _ (fun b _ hb => ⟨hb.1, fun e => hb.2 (by simpa [Value.ownBlock] using e)⟩) h1
end
end Go.Proofs.YthppadlcejpgbaaGreatDoor.Wk

namespace Go.Proofs.YthppadlcejpgbaaGreatDoor
open Go Wk
open Go.RowKit (Below)
attribute [local irreducible] Go.Calls

section
variable {P : Program} {n : Nat} {ds : List Deferred} {C : World → Prop} {K : Fr → Prop} {F : Fr} {ops rest : List Oper} {d : Nat} {ty : TypeId} {pos : String} {aft : Array Edge}
theorem Wk.Wq.idxStr {x i : Operand} {t : TypeId} {l : List UInt8} {k : IntKind} {j : Int} {b : UInt8} [ht : Und P t .string] (hx : ev n F x = vs l) (hi : ev n F i = .int k j) (h0 : 0 ≤ j) (hj : l[j.toNat]? = some b)
    (c : Wq P n ds C K ops rest (upd F d (.int .u8 b.toNat))) : Wq P n ds C K ops (⟨some d, .index t x i, ty, pos, aft, none⟩ :: rest) F :=
  Wq.val (fun w _ => by simp only [execOp, hx, hi, Sem.run_bind, run_idxStr ht.h h0 hj, Result.andThen_ok, Sem.run_pure]) c
theorem Wk.Wq.andM {x y : Operand} {t t' : TypeId} {k : IntKind} {A B : Int} (a m : Nat) (hk : k.signed = false) (hA : A = (a : Int)) (hB : B = ((2 ^ m - 1 : Nat) : Int)) (ha : a < 2 ^ k.bits) (hm : m ≤ k.bits) (hx : ev n F x = .int k A) (hy : ev n F y = .int k B)
    (c : Wq P n ds C K ops rest (upd F d (.int k ((a % 2 ^ m : Nat) : Int)))) : Wq P n ds C K ops (⟨some d, .binOp .and t x y t', ty, pos, aft, none⟩ :: rest) F := by
  subst hA
  subst hB
  refine Wq.val (fun w _ => ?_) c
  simp only [execOp, hx, hy, Sem.run_bind, run_eqGuard_int, Result.andThen_ok]
  have : binOp .and t (.int k (a : Int)) (.int k ((2 ^ m - 1 : Nat) : Int)) = Op.intBits .and k (a : Int) ((2 ^ m - 1 : Nat) : Int) := by simp [binOp]
  rw [this, run_andM hk a m ha hm]; rfl
end
theorem joinTail_len {sep : List UInt8} {m : Nat} : ∀ {xs : List (List UInt8)}, (∀ x ∈ xs, x.length ≤ m) → (Lib.joinTail sep xs).length ≤ (m + sep.length) * xs.length
  | [], _ => by simp [Lib.joinTail]
  | x :: xs, h => by
    have e : Lib.joinTail sep (x :: xs) = sep ++ x ++ Lib.joinTail sep xs := by simp [Lib.joinTail]
    have h1 := joinTail_len (sep := sep) (m := m) (xs := xs) fun y hy => h y (by simp [hy])
    have h2 := h x (by simp)
    rw [e, List.length_append, List.length_append, List.length_cons, Nat.mul_add]
    omega
theorem join_len {sep : List UInt8} {m : Nat} {xs : List (List UInt8)} (h : ∀ x ∈ xs, x.length ≤ m) : (Lib.join xs sep).length ≤ (m + sep.length) * xs.length := by
  cases xs with
  | nil => simp [Lib.join, List.intercalate]
  | cons x r =>
    rw [Lib.join_cons, List.length_append, List.length_cons, Nat.mul_add]
    have h1 := joinTail_len (sep := sep) (m := m) (xs := r) fun y hy => h y (by simp [hy])
    have h2 := h x (by simp)
    omega
theorem Join_spec {Pb : Nat → Prop} {w : World} {v : Value} {xs : List (List UInt8)} {sep : List UInt8} (h : RdS (one vs) 1 Pb w v xs) (hn : xs.length ≤ 1000000000) (hl : (Lib.join xs sep).length ≤ 100000000000) :
    Calls Tryz.prog 32 #[v, vs sep] w (Ret fun r w' => r = vs (Lib.join xs sep) ∧ New w w') := by
  have key : ∀ a c, xs = [] → Calls Tryz.prog 32 #[.slice a 0 c, vs sep] w (Ret fun r w' => r = vs (Lib.join xs sep) ∧ New w w') := by
    intro a c hx
    refine (Tryz.strings_Join_none a c ⟨sep.toArray⟩ w).mono ?_
    rintro e w' ⟨rfl, rfl⟩
    subst hx
    exact ⟨_, rfl, rfl, Chg.refl _ _⟩
  rcases h with ⟨rfl, rfl⟩ | ⟨a, cap, rfl, rfl, hc⟩ | ⟨b, off, cap, cur, e, fr, rfl, hb, hh, h1, h2, h3, h4⟩
  · exact key none 0 rfl
  · exact key (some a) cap rfl
  · have em : (xs.map fun x => (⟨x.toArray⟩ : ByteArray)).map (·.data.toList) = xs := by
      rw [List.map_map]; conv => rhs; rw [← List.map_id xs]
      exact List.map_congr_left fun x _ => rfl
    have := Tryz.strings_Join b off cap (xs.map fun x => ⟨x.toArray⟩) ⟨sep.toArray⟩ w ?_ (heap_lt hh) (by simp; omega) (by simpa using h1) (by rw [em]; show (Lib.join xs sep).length ≤ _; omega)
    · rw [em, List.length_map] at this
      refine this.mono ?_
      rintro e w' ⟨rfl, hB⟩
      exact ⟨_, rfl, rfl, New.ofBelow hB⟩
    · intro j x hx
      rw [List.getElem?_map] at hx
      obtain ⟨y, hy, rfl⟩ := Option.map_eq_some_iff.1 hx
      have h5 := h4 j y hy
      simp only [one, Nat.mul_one] at h5
      have h6 := congrArg (fun q => q[0]?) h5
      simp only [List.getElem?_take, List.getElem?_drop] at h6
      simp only [World.cell?, hh]
      simpa using h6
theorem hexD_len (n : Nat) : (hexD n).length ≤ 16 := hexF_len 15 n
theorem hexstr (k : Nat) (h : k < 16) : ([48, 49, 50, 51, 52, 53, 54, 55, 56, 57, 97, 98, 99, 100, 101, 102] : List UInt8)[k]? = some (dg k) := by revert k; decide
theorem numT_len (x : Int) : (numT x).length ≤ 18 := by
  have := hexD_len x.toNat
  simp only [numT, List.length_cons]; omega
set_option maxHeartbeats 1000000 in
theorem ShowN_spec {w : World} {l : List UInt8} (hD : DeB w) (hl : l.length ≤ 100000000) (hlk : look l ≠ 1) :
    Calls Tryz.prog 12 #[vs l] w (Ret fun r w' => r = vs (showM l) ∧ New w w') := by
  refine calls_of_Wc Tryz.func12 rfl Tryz.ntmps12 rfl ?_
  (repeat' (first | refine Wl.moveE (by conv => { lhs; whnf }) ?_ | refine Wl.assignE (by conv => { lhs; whnf }) ?_ | refine Wl.nil ?_ | refine Qseq.normal ?_ | refine Wc.seq ?_ | refine Wc.region ?_))
  refine Wl.call (cLook_spec hl) rfl ?_
  rintro _ w1 ⟨rfl, n1⟩
  rcases look_show l with ⟨h0, _, hs⟩ | ⟨h0, _⟩ | ⟨h0, hne, h4, hs⟩ | ⟨h0, hne, hs⟩
  · rw [h0, hs]
    (repeat' (first | refine Wl.assignE (by conv => { lhs; whnf }) ?_ | refine Wl.nil ?_ | refine Qseq.normal ?_ | refine Wc.seq ?_ | refine Wc.region ?_ | refine Wc.block ?_ | refine Wc.ret ?_ | refine Qseq.ret ?_ | refine Qblk.ret ?_ | refine Wc.condT rfl ?_ | (refine Wl.eql rfl rfl (fun _ => ?_) (fun _ => ?_) <;> (first | (exfalso; omega) | skip))))
    exact Qfn.ret1 rfl rfl ⟨_, rfl, rfl, n1⟩
  · exact absurd h0 hlk
  · rw [h0]
    (repeat' (first | refine Wl.moveE (by conv => { lhs; whnf }) ?_ | refine Wl.assignE (by conv => { lhs; whnf }) ?_ | refine Wl.nil ?_ | refine Qseq.normal ?_ | refine Wc.seq ?_ | refine Wc.region ?_ | refine Wc.block ?_ | refine Wc.condT rfl ?_ | refine Wc.condF rfl ?_ | (refine Wl.eql rfl rfl (fun _ => ?_) (fun _ => ?_) <;> (first | (exfalso; omega) | skip))))
    refine Wl.call (cU32s_spec hl) rfl ?_
    rintro _ w2 ⟨v, rfl, ho, n2⟩
    rw [(form_ok h4).2] at ho
    have hr := ho.rd good32.mo
    have hpl : (pieces 4 l).length ≤ 25000000 := by rw [pieces_length]; omega
    have hp4 := pieces4_lt (v := l)
    generalize pieces 4 l = xs at hr hpl hp4 hs
    clear ho
    obtain ⟨a, cap, rfl, hcap, hmax⟩ := hr.form
    simp only [maxLen] at hmax
    have n12 := New.trans n1 n2
    have hr2 : RdS (one u32v) 1 (fun b => b < w2.heap.size) w2 (.slice a xs.length cap) xs := by
      rcases hr with h | h | ⟨b, off, c2, cur, e, fr, hv, hb, hh, h⟩
      · exact .inl h
      · exact .inr (.inl h)
      · exact .inr (.inr ⟨b, off, c2, cur, e, fr, hv, heap_lt hh, hh, h⟩)
    clear hr
    (repeat' (first | refine Wl.moveE (by conv => { lhs; whnf }) ?_ | refine Wl.assignE (by conv => { lhs; whnf }) ?_ | refine Wl.nil ?_ | refine Wl.extract rfl rfl ?_ | refine Wl.lenS rfl ?_ | refine Qseq.normal ?_ | refine Wc.seq ?_ | refine Wc.region ?_ | refine Wc.block ?_))
    refine Wc.loop (σ := Nat × Value) (fun q => [(3, q.2), (52, .slice a xs.length cap), (53, vi xs.length), (54, vi q.1)]) (fun q w' => q.1 ≤ xs.length ∧ OwnS (one vs) 9 1 (fun b => w2.heap.size ≤ b) (fun _ => False) w' q.2 ((xs.take q.1).map numT) ∧ New w2 w') (fun q => xs.length - q.1) (0, .slice none 0 0) ⟨rfl, rfl, rfl, rfl, trivial⟩ ⟨Nat.zero_le _, OwnS.nil, Chg.refl _ _⟩ ?_
    rintro ⟨i, lv⟩ G w3 ⟨hi, ho, n3⟩
    dsimp only at hi ho
    simp only [upds]
    (repeat' (first | refine Wl.moveE (by conv => { lhs; whnf }) ?_ | refine Wl.nil ?_ | refine Qseq.normal ?_ | refine Wc.seq ?_ | refine Wc.region ?_ | refine Wc.block ?_ | refine Wc.skip ?_ | refine Wc.exit ?_ | refine Qseq.exit ?_ | refine Qblk.hit ?_ | refine Qloop.exit ?_ | refine Wc.condT rfl ?_ | refine Wc.condF rfl ?_ | refine Wl.lss rfl rfl (fun _ => ?_) (fun _ => ?_)))
    · obtain ⟨x, hx⟩ := get_lt' xs (k := i) (by omega)
      obtain ⟨hx0, hx1⟩ := hp4 x (List.mem_of_getElem? hx)
      have hr3 := hr2.keep (stable_one _) n3.keep
      refine Wl.idxLoadV hr3 rfl rfl (by omega) (by rw [Int.toNat_natCast]; exact hx) rfl rfl fun p => ?_
      have ex : x = ((x.toNat : Nat) : Int) := (Int.toNat_of_nonneg hx0).symm
      (repeat' (first | refine Wl.moveE (by conv => { lhs; whnf }) ?_ | refine Wl.assignE (by conv => { lhs; whnf }) ?_ | refine Wl.nil ?_ | refine Qseq.normal ?_ | refine Wc.region ?_))
      refine Wl.convI rfl ?_
      rw [show IntKind.u64.wrap x = ((x.toNat : Nat) : Int) by rw [wrapU64 x hx0 (by omega)]; exact ex]
      refine Wl.call (FormatUint_spec ((hD.new n12).new n3) (show x.toNat < _ by omega)) rfl ?_
      rintro _ w4 ⟨rfl, n4⟩
      have hhl := hexD_len x.toNat
      refine Wl.sadd (a := [48, 120]) rfl rfl (by simp only [List.length_cons, List.length_nil]; omega) ?_
      have ho4 := ho.keepP n4.keep
      have hml : ((xs.take i).map numT).length ≤ 25000000 := by simp only [List.length_map, List.length_take]; omega
      refine Wl.append1 (y := numT x) goodStr ho4 rfl rfl rfl rfl rfl (by omega) (by omega) (by simp only [maxLen]; omega) (by omega) rfl rfl fun v5 w5 p ho5 hc5 _ => ?_
      (repeat' (first | refine Wl.moveE (by conv => { lhs; whnf }) ?_ | refine Wl.assignE (by conv => { lhs; whnf }) ?_ | refine Wl.nil ?_ | refine Qseq.normal ?_ | refine Wc.region ?_ | refine Qblk.normal ?_ | refine Wl.add rfl rfl (by omega) (by omega) ?_))
      have s3 := n3.size
      have s4 := n4.size
      refine Qloop.normal (i + 1, v5) ⟨rfl, rfl, rfl, rfl, trivial⟩ ⟨by dsimp only; omega, ?_, Chg.trans (New.trans n3 n4) hc5 fun b hb e => by have := (ho4.lt e).1; omega⟩ (by dsimp only; omega)
      dsimp only
      rw [List.take_add_one, hx, List.map_append]
      exact ho5.mono goodStr.mo (fun b _ hb => by rcases hb with hb | hb <;> omega) (fun _ _ h => h)
    · have hi2 : i = xs.length := by omega
      subst hi2
      rw [List.take_length] at ho
      have hjl : (Lib.join (xs.map numT) [32]).length ≤ 475000000 := by
        refine Nat.le_trans (join_len (m := 18) fun y hy => ?_) ?_
        · obtain ⟨x, _, rfl⟩ := List.mem_map.1 hy; exact numT_len x
        · simp only [List.length_map, List.length_singleton]; omega
      refine Wl.call (Join_spec (ho.rd goodStr.mo) (by simp only [List.length_map]; omega) (by omega)) rfl ?_
      rintro _ w4 ⟨rfl, n4⟩
      refine Wl.sadd (a := [60]) rfl rfl (by simp only [List.length_singleton]; omega) ?_
      refine Wl.sadd (b := [62]) rfl rfl (by simp only [List.length_append, List.length_singleton]; omega) ?_
      (repeat' (first | refine Wl.assignE (by conv => { lhs; whnf }) ?_ | refine Wl.nil ?_ | refine Qseq.normal ?_ | refine Wc.ret ?_ | refine Qseq.ret ?_ | refine Qblk.ret ?_))
      refine Qfn.ret1 rfl rfl ⟨_, rfl, ?_, n12.trans (n3.trans n4)⟩
      rw [hs]; rfl
  · rw [h0]
    (repeat' (first | refine Wl.moveE (by conv => { lhs; whnf }) ?_ | refine Wl.assignE (by conv => { lhs; whnf }) ?_ | refine Wl.nil ?_ | refine Qseq.normal ?_ | refine Wc.seq ?_ | refine Wc.region ?_ | refine Wc.block ?_ | refine Wc.skip ?_ | refine Qblk.normal ?_ | refine Wc.condF rfl ?_ | (refine Wl.eql rfl rfl (fun _ => ?_) (fun _ => ?_) <;> (first | (exfalso; omega) | skip))))
    refine Wl.strBytes (l := l) rfl (by simp only [maxLen]; omega) fun w2 cap C fr hC htk hCs n2 s2 hr => ?_
    have n12 := New.trans n1 n2
    have hr2 : RdS (one by8) 1 (fun b => b < w2.heap.size) w2 (.slice (some ⟨w1.heap.size, 0, none⟩) l.length cap) l := by
      rcases hr with h | h | ⟨b, off, c2, cur, e, fr, hv, hb, hh, h⟩
      · exact .inl h
      · exact .inr (.inl h)
      · exact .inr (.inr ⟨b, off, c2, cur, e, fr, hv, heap_lt hh, hh, h⟩)
    clear hr
    (repeat' (first | refine Wl.moveE (by conv => { lhs; whnf }) ?_ | refine Wl.nil ?_ | refine Wl.lenS rfl ?_ | refine Qseq.normal ?_ | refine Wc.block ?_))
    refine Wc.loop (σ := Nat × Value) (fun q => [(3, q.2), (71, .slice (some ⟨w1.heap.size, 0, none⟩) l.length cap), (72, vi l.length), (73, vi q.1)]) (fun q w' => q.1 ≤ l.length ∧ OwnS (one vs) 9 1 (fun b => w2.heap.size ≤ b) (fun _ => False) w' q.2 ((l.take q.1).map hexB) ∧ New w2 w') (fun q => l.length - q.1) (0, .slice none 0 0) ⟨rfl, rfl, rfl, rfl, trivial⟩ ⟨Nat.zero_le _, OwnS.nil, Chg.refl _ _⟩ ?_
    rintro ⟨i, lv⟩ G w3 ⟨hi, ho, n3⟩
    dsimp only at hi ho
    simp only [upds]
    (repeat' (first | refine Wl.moveE (by conv => { lhs; whnf }) ?_ | refine Wl.nil ?_ | refine Qseq.normal ?_ | refine Wc.seq ?_ | refine Wc.region ?_ | refine Wc.block ?_ | refine Wc.skip ?_ | refine Wc.exit ?_ | refine Qseq.exit ?_ | refine Qblk.hit ?_ | refine Qloop.exit ?_ | refine Wc.condT rfl ?_ | refine Wc.condF rfl ?_ | refine Wl.lss rfl rfl (fun _ => ?_) (fun _ => ?_)))
    · obtain ⟨c, hc⟩ := get_lt' l (k := i) (by omega)
      have hcl := c.toNat_lt
      have hr3 := hr2.keep (stable_one _) n3.keep
      refine Wl.idxLoadV hr3 rfl rfl (by omega) (by rw [Int.toNat_natCast]; exact hc) rfl rfl fun p => ?_
      have hml : ((l.take i).map hexB).length ≤ 100000000 := by simp only [List.length_map, List.length_take]; omega
      (repeat' (first | refine Wl.assignE (by conv => { lhs; whnf }) ?_ | refine Wl.nil ?_ | refine Qseq.normal ?_))
      refine Wc.regionM [0, 1, 2, 3, 4, 5, 6] [7, 8, 9, 10, 11] rfl (by kernel_rfl) (by simp only [pick, List.getElem?_cons_succ, List.getElem?_cons_zero]; rfl) (by simp only [pick, List.getElem?_cons_succ, List.getElem?_cons_zero]; rfl) (fun _ => True) trivial ?_
      (repeat' (refine Wq.moveE (by conv => { lhs; whnf }) ?_))
      refine Wq.shrW rfl rfl (by omega) ?_
      rw [show (c.toNat : Int).fdiv (2 ^ (min (4 : Int).toNat IntKind.u8.bits)) = ((c.toNat / 16 : Nat) : Int) by
        rw [show (2 : Int) ^ (min (4 : Int).toNat IntKind.u8.bits) = 16 by decide, Int.fdiv_eq_ediv_of_nonneg _ (by omega)]; rfl]
      refine Wq.idxStr rfl rfl (by omega) (by rw [Int.toNat_natCast]; exact hexstr _ (by omega)) ?_
      (repeat' (refine Wq.moveE (by conv => { lhs; whnf }) ?_))
      refine Wq.andM (k := .u8) c.toNat 4 rfl rfl rfl (show c.toNat < 2 ^ IntKind.u8.bits from hcl) (by decide) rfl rfl ?_
      refine Wq.idxStr rfl rfl (by omega) (by rw [Int.toNat_natCast]; exact hexstr (c.toNat % 2 ^ 4) (by omega)) ?_
      refine Wq.nil ?_
      intro w4 n4
      have ho4 := ho.keepP n4.keep
      refine Wch.cons (Wl.buildSliceN (N := 2) (R := one by8) (Pe := fun _ => False) (xs := hexB c) (us := (hexB c).map by8) goodR8 rfl rfl ⟨rfl, rfl, rfl, rfl, trivial⟩ (Nat.succ_pos 1) (show 2 * 1 ≤ 16777216 by omega) fun v5 w5 ho5 n5 s5 hb5 => Wl.nil ⟨rfl, trivial, ?_⟩)
      refine Wch.cons (Wl.bytesStr (ho5.rd (mono_one _)) rfl (Wl.nil ⟨rfl, trivial, ?_⟩))
      refine Wch.cons (Wl.buildSlice1 (R := one vs) (y := hexB c) (Pe := fun _ => False) goodStr rfl rfl rfl rfl (by omega) (by omega) fun v6 w6 ho6 n6 s6 hb6 => Wl.nil ⟨rfl, trivial, ?_⟩)
      have ho46 := (ho4.keepP n5.keep).keepP n6.keep
      have s3 := n3.size
      have s4 := n4.size
      refine Wch.cons (Wl.appendAll (ys := [hexB c]) goodStr ho46 (ho6.rd goodStr.mo) (fun _ _ h => h) rfl rfl (by omega) (by simp only [maxLen, List.length_singleton]; omega) (by simp only [List.length_singleton]; omega) fun v7 w7 ho7 hc7 _ _ => Wl.nil ⟨rfl, trivial, ?_⟩)
      refine Wch.last ?_
      (repeat' (first | refine Wl.moveE (by conv => { lhs; whnf }) ?_ | refine Wl.assignE (by conv => { lhs; whnf }) ?_ | refine Wl.nil ?_ | refine Qseq.normal ?_ | refine Wc.region ?_ | refine Qblk.normal ?_ | refine Wl.add rfl rfl (by omega) (by omega) ?_))
      refine Qloop.normal (i + 1, v7) ⟨rfl, rfl, rfl, rfl, trivial⟩ ⟨by dsimp only; omega, ?_, Chg.trans (New.trans n3 (New.trans n4 (New.trans n5 n6))) hc7 fun b hb e => by have := (ho46.lt e).1; omega⟩ (by dsimp only; omega)
      dsimp only
      rw [List.take_add_one, hc, List.map_append]
      exact ho7.mono goodStr.mo (fun b _ hb => by have := n5.size; have := n6.size; rcases hb with hb | hb <;> omega) (fun _ _ h => h)
    · have hi2 : i = l.length := by omega
      subst hi2
      rw [List.take_length] at ho
      have hjl : (Lib.join (l.map hexB) [32]).length ≤ 475000000 := by
        refine Nat.le_trans (join_len (m := 2) fun y hy => ?_) ?_
        · obtain ⟨x, _, rfl⟩ := List.mem_map.1 hy; exact Nat.le_refl _
        · simp only [List.length_map, List.length_singleton]; omega
      refine Wl.call (Join_spec (ho.rd goodStr.mo) (by simp only [List.length_map]; omega) (by omega)) rfl ?_
      rintro _ w4 ⟨rfl, n4⟩
      refine Wl.sadd (a := [91]) rfl rfl (by simp only [List.length_singleton]; omega) ?_
      refine Wl.sadd (b := [93]) rfl rfl (by simp only [List.length_append, List.length_singleton]; omega) ?_
      (repeat' (first | refine Wl.assignE (by conv => { lhs; whnf }) ?_ | refine Wl.nil ?_ | refine Qseq.normal ?_ | refine Wc.ret ?_))
      refine Qfn.ret1 rfl rfl ⟨_, rfl, ?_, n12.trans (n3.trans n4)⟩
      rw [hs]; rfl
end Go.Proofs.YthppadlcejpgbaaGreatDoor
