/-
  The generic walking kit of this claim: 'append(b, s...)' of a string to bytes of the call's own. It speaks of any program.
-/
import Derived.Test.YtjpebmgllfiloaaDoorPtr
import Derived.Lib.AppendStr
namespace Go.Proofs.YtjpebmgllfiloaaDoor.Wk
open Go Go.RowKit

abbrev by8 : UInt8 → Value := fun b => .int .u8 b.toNat
theorem goodR8 : GoodR (one by8) 1 := good_one _ fun _ => rfl
theorem strCells_mk (l : List UInt8) : Lib.strCells ⟨l.toArray⟩ = l.map by8 := by
  simp [Lib.strCells]
theorem OwnS.of1 {α : Type} {f : α → Value} {e : TypeId} {Pb Pe : Nat → Prop} {w : World} {v : Value} {xs : List α} {m : Nat} (hm : m = xs.length) (h : OwnC Pb w e 1 v m (xs.map f)) : OwnS (one f) e 1 Pb Pe w v xs := by
  subst hm
  refine ⟨_, h, fun i x hx => ?_⟩
  have hi : i < (xs.map f).length := by simpa using (List.getElem?_eq_some_iff.1 hx).1
  simp only [one, Nat.mul_one]
  rw [List.drop_eq_getElem_cons hi]
  have := (List.getElem?_eq_some_iff.1 hx).2
  simp [this]
theorem OwnS.to1 {α : Type} {f : α → Value} {e : TypeId} {Pb Pe : Nat → Prop} {w : World} {v : Value} {xs : List α} (h : OwnS (one f) e 1 Pb Pe w v xs) : OwnC Pb w e 1 v xs.length (xs.map f) := by
  obtain ⟨cs, hoc, he⟩ := h
  have hl : cs.length = xs.length := by simpa using hoc.1
  have : cs = xs.map f := by
    apply List.ext_getElem (by simpa using hl)
    intro i h1 h2
    have hx : xs[i]? = some xs[i] := List.getElem?_eq_getElem (by omega)
    have := he i _ hx
    simp only [one, Nat.mul_one] at this
    rw [List.drop_eq_getElem_cons h1, List.take_succ_cons, List.take_zero] at this
    rw [(List.cons.inj this).1]; simp
  rw [← this]; exact hoc
section
variable {P : Program} {w : World}
theorem run_append_cs (t u ty e : TypeId) {bytes : Nat} {agg : Bool} (ht : P.underlying t = some (.slice e)) (hu : P.underlying u = some .string) (he : ElT P e 1 bytes agg (.int .u8 0))
    {Pb : Nat → Prop} {v : Value} {m : Nat} {cs : List Value} (hown : OwnC Pb w e 1 v m cs) (l : List UInt8)
    (h63 : m + l.length ≤ maxLen) (hby : (m + l.length) * bytes ≤ 140737488355328) :
    ∃ v' w', (Builtin.append_ #[t, u] ty #[v, vs l]).run P w = .ok v' w' ∧ OwnC (fun b => Pb b ∨ w.heap.size ≤ b) w' e 1 v' (m + l.length) (cs ++ l.map by8) ∧ Chg (fun b => v.ownBlock = some b) w w' ∧
      (v'.ownBlock = v.ownBlock ∨ ∀ b, v'.ownBlock = some b → w.heap.size ≤ b) := by
  obtain ⟨i, hi, hsz', hby', hz'⟩ := he.inf
  subst hby'
  have hsmall : m + l.length ≤ 9223372036854775807 := by simp only [maxLen] at h63; omega
  have hss : (⟨l.toArray⟩ : ByteArray).size = l.length := by simp [ByteArray.size]
  have hlm : cs.length = m := by simpa using hown.1
  have hlen : (cs ++ l.map by8).length = (m + l.length) * 1 := by simp [hlm]
  have grown : ∀ (old : Nat), old < m + l.length →
      OwnC (fun b => Pb b ∨ w.heap.size ≤ b) (w.drew.alloc (.cells (cs.toArray ++ (l.map by8).toArray ++ Builtin.zeroCells #[.int .u8 0] (grownCap w (m + l.length) old e - (m + l.length))) e)) e 1
        (.slice (some ⟨w.heap.size, 0, none⟩) (m + l.length) (grownCap w (m + l.length) old e)) (m + l.length) (cs ++ l.map by8) := by
    intro old ho
    have hge := grownCap_ge w (m + l.length) old e
    have hcm : grownCap w (m + l.length) old e ≤ maxLen := grownCap_le_maxLen w (m + l.length) old e h63
    refine ⟨hlen, .inr ⟨w.heap.size, _, _, rfl, .inr (Nat.le_refl _), heap_alloc_new w.drew _, hge, hcm, ?_, ?_⟩⟩
    · simp only [Array.size_append, List.size_toArray, size_zeroCells, hlm, List.length_map]
      simp
      omega
    · simp only [Array.toList_append, List.append_assoc]
      rw [← List.append_assoc, ← hlen]
      exact List.take_left
  have chg : ∀ M o, Chg M w (w.drew.alloc o) := fun M o => ⟨rfl, rfl, rfl, by simp, fun k hk _ => World.heap_old w.drew o hk⟩
  rcases hown.2 with ⟨rfl, rfl⟩ | ⟨g, cap, cur, rfl, hbg, hg, hnc, hcm, hcs, htake⟩
  · have hx : cs = [] := List.eq_nil_of_length_eq_zero hlm
    subst hx
    by_cases hm : l = []
    · subst hm
      refine ⟨.slice none 0 0, w, ?_, ⟨by simp, .inl ⟨rfl, rfl⟩⟩, Chg.refl _ _, .inl rfl⟩
      have : (⟨#[]⟩ : ByteArray).size = 0 := rfl
      simp [Builtin.append_, run_underlying ht, run_underlying hu, sizeOf, typeInfo, hi, Builtin.lenOf, Builtin.firstCells, this]
    · have hp : 0 < l.length := List.length_pos_iff.2 hm
      have hr := run_append_nil_string (P := P) w t u ty e i (.int .u8 0) ht hu hi hz' ⟨l.toArray⟩ (by omega) (by omega) (by rw [hss]; have hb := hby; simp only [Nat.zero_add] at hb; omega)
      have hgr := grown 0 (by omega)
      simp only [hss] at hr
      have e1 : (⟨l.toArray⟩ : ByteArray).data.map (fun b => Value.int .u8 b.toNat) = (l.map by8).toArray := by simp
      simp only [Nat.zero_add, List.nil_append] at hgr ⊢
      refine ⟨_, _, hr, ?_, chg _ _, .inr fun b hb => by simp only [Value.ownBlock, Option.some.injEq] at hb; omega⟩
      rw [e1]
      have e2 : (Value.int .u8 0).cells = #[.int .u8 0] := rfl
      rw [e2]
      simpa [by8] using hgr
  · by_cases hroom : m + l.length ≤ cap
    · have hr := Lib.run_append_room_string (P := P) w t u ty e i ht hu hi hsz' g m cap cur hg ⟨l.toArray⟩ (by omega) (by omega)
      rw [hss, strCells_mk] at hr
      refine ⟨_, _, hr, ⟨hlen, .inr ⟨g, cap, _, rfl, .inl hbg, setRow_heap w g cur _ e _ hg, hroom, hcm, ?_, ?_⟩⟩, Chg.setRow rfl, .inl rfl⟩
      · simp only [List.size_toArray, List.length_append, List.length_take, List.length_drop, Array.length_toList, List.length_map]
        omega
      · simp only [Nat.mul_one] at htake ⊢
        rw [htake]
        have : (m + l.length) = (cs ++ l.map by8).length := by simp [hlm]
        rw [this]
        exact List.take_left
    · have holds : ∀ j u, cs[j]? = some u → w.cell? ((⟨g, 0, none⟩ : Addr).add j) = some u := by
        intro j u hu
        rw [addr_add, Nat.zero_add]
        simp only [World.cell?, hg]
        rw [← htake, List.getElem?_take] at hu
        split at hu
        · simpa using hu
        · cases hu
      have hr := Lib.run_append_grow_string (P := P) w t u ty e i (.int .u8 0) ht hu hi hz' ⟨g, 0, none⟩ m cap cs (by rw [hsz']; omega) holds ⟨l.toArray⟩ (by omega) (by omega) (growslice_fits (by omega) (by rw [hss]; exact hby))
      rw [hss, strCells_mk] at hr
      exact ⟨_, _, hr, grown cap (by omega), chg _ _, .inr fun b hb => by simp only [Value.ownBlock, Option.some.injEq] at hb; omega⟩
end
section
variable {Pb Pe : Nat → Prop} {xs : List UInt8}
variable {P : Program} {n : Nat} {ds : List Deferred} {Q : Po} {F : Fr} {w w' : World} {ops rest : List Oper} {d d1 d2 : Nat} {ty : TypeId} {pos : String} {aft : Array Edge}
/-- 'b = append(b, s...)'. -/
theorem Wl.appendStr {x s : Operand} {t u e : TypeId} {bytes : Nat} {agg : Bool} {v : Value} {l : List UInt8}
    (hown : OwnS (one by8) e 1 Pb Pe w v xs) [ht : Und P t (.slice e)] [hu : Und P u .string] [he : ElT P e 1 bytes agg (.int .u8 0)] (hs : ev n F s = v) (hx : ev n F x = vs l)
    (h63 : xs.length + l.length ≤ maxLen) (hby : (xs.length + l.length) * bytes ≤ 140737488355328)
    (c : ∀ v' w', OwnS (one by8) e 1 (fun b => Pb b ∨ w.heap.size ≤ b) Pe w' v' (xs ++ l) → Chg (fun b => v.ownBlock = some b) w w' → (v'.ownBlock = v.ownBlock ∨ ∀ b, v'.ownBlock = some b → w.heap.size ≤ b) → Wl P n ds Q ops rest (upd F d v') w') :
    Wl P n ds Q ops (⟨some d, .call { callee := .builtin .append, args := #[s, x], argTypes := #[t, u] }, ty, pos, aft, none⟩ :: rest) F w := by
  obtain ⟨v', w', hr, g2, g3, g4⟩ := run_append_cs (P := P) (w := w) t u ty e ht.h hu.h he hown.to1 l h63 hby
  refine Wl.val ?_ (c v' w' (OwnS.of1 (m := xs.length + l.length) (by simp) (by simpa using g2)) g3 g4)
  simp only [execOp, resolve, invoke, builtin, Sem.run_bind, Sem.run_pure, Result.andThen_ok, List.map_toArray, List.map_cons, List.map_nil, hs, hx, hr]
end
end Go.Proofs.YtjpebmgllfiloaaDoor.Wk
