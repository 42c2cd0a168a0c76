/-
  The walk of slices.DeleteFunc over props.
-/
import Derived.Test.YtjpebmgllfiloaaDoorLa
import Derived.Test.YtjpebmgllfiloaaDoorRow
namespace Go.Proofs.YtjpebmgllfiloaaDoor
open Go Wk
open Go.RowKit (Below)
attribute [local irreducible] Go.Calls

theorem idx_cases {α : Type} (p : α → Bool) (l : List α) : (idx p l = -1 ∧ ∀ x ∈ l, p x = false) ∨ ∃ i y, idx p l = (i : Nat) ∧ l[i]? = some y ∧ p y = true ∧ ∀ x ∈ l.take i, p x = false := by
  unfold idx
  cases hx : l.findIdx? p with
  | none => exact .inl ⟨rfl, List.findIdx?_eq_none_iff.1 hx⟩
  | some i =>
    obtain ⟨hlt, hp, hb⟩ := List.findIdx?_eq_some_iff_getElem.1 hx
    refine .inr ⟨i, l[i], rfl, List.getElem?_eq_getElem hlt, hp, fun x hx => ?_⟩
    obtain ⟨j, hj⟩ := List.mem_iff_getElem?.1 hx
    rw [List.getElem?_take] at hj
    split at hj
    · rename_i hji
      have h2 := hb j hji
      obtain ⟨h3, rfl⟩ := List.getElem?_eq_some_iff.1 hj
      simpa using h2
    · cases hj
set_option maxHeartbeats 1000000 in
theorem DeleteFunc_spec {Pb : Nat → Prop} {w : World} {v : Value} {l : List Pr} {p : Pr → Bool} {fg : FuncId} {fc : Array Value} [hc : Callable Tryd.prog fg] (h : OwnPr Pb w v l)
    (hf : ∀ y w', y ∈ l → Chg (fun b => v.ownBlock = some b) w w' → Calls Tryd.prog fg ([Value.agg (pC y).toArray] ++ fc.toList).toArray w' (Ret fun r w'' => r = .bool (p y) ∧ New w' w'')) :
    Calls Tryd.prog 42 #[v, .func (.func fg) #[] fc] w (Ret fun r w' => OwnPr Pb w' r (l.filter fun y => !p y) ∧ (∀ b, r.ownBlock = some b → v.ownBlock = some b) ∧ Chg (fun b => v.ownBlock = some b) w w') := by
  refine calls_of_Wc Tryd.func42 rfl Tryd.ntmps42 rfl ?_
  (repeat' (first | refine Wl.moveE (by conv => { lhs; whnf }) ?_ | refine Wl.assignE (by conv => { lhs; whnf }) ?_ | refine Wl.nil ?_ | refine Qseq.normal ?_ | refine Wc.seq ?_ | refine Wc.region ?_))
  refine Wl.call (IndexFuncPr_spec (h.rd (mono_flat pC)) (fun y w' hy hn => hf y w' hy hn.any)) rfl ?_
  rintro _ w1 ⟨rfl, n1⟩
  rcases idx_cases p l with ⟨e, hno⟩ | ⟨i, y0, e, hi0, hpy, hbef⟩
  · rw [e]
    (repeat' (first | refine Wl.moveE (by conv => { lhs; whnf }) ?_ | refine Wl.assignE (by conv => { lhs; whnf }) ?_ | refine Wl.nil ?_ | refine Qseq.normal ?_ | refine Wc.seq ?_ | refine Wc.region ?_ | refine Wc.ret ?_ | refine Qseq.ret ?_ | refine Wc.condT rfl ?_ | (refine Wl.eql rfl rfl (fun _ => ?_) (fun _ => ?_) <;> (first | (exfalso; omega) | skip))))
    refine Qfn.ret1 rfl rfl ⟨_, rfl, ?_, fun b hb => hb, n1.any⟩
    rw [List.filter_eq_self.2 (fun y hy => by simp [hno y hy])]
    exact h.new plainPr n1
  · rw [e]
    have hil : i < l.length := (List.getElem?_eq_some_iff.1 hi0).1
    obtain ⟨g, cap, rfl, hgb, hgl, hob⟩ := h.blk (by intro e; rw [e] at hil; simp at hil)
    obtain ⟨_, _, hfm, hcap, hmax⟩ := h.form
    cases hfm
    simp only [maxLen] at hmax
    (repeat' (first | refine Wl.moveE (by conv => { lhs; whnf }) ?_ | refine Wl.assignE (by conv => { lhs; whnf }) ?_ | refine Wl.nil ?_ | refine Qseq.normal ?_ | refine Wc.seq ?_ | refine Wc.region ?_ | refine Wc.block ?_ | refine Wc.skip ?_ | refine Wc.condF rfl ?_ | refine Wl.add rfl rfl (by omega) (by omega) ?_ | (refine Wl.eql rfl rfl (fun _ => ?_) (fun _ => ?_) <;> (first | (exfalso; omega) | skip))))
    refine Wc.loop (σ := Nat × Nat × List Pr) (fun s => [(0, .slice (some ⟨g, 0, none⟩) l.length cap), (1, .func (.func fg) #[] fc), (5, vi s.1), (6, vi s.2.1)])
      (fun s w' => s.1 < s.2.1 ∧ s.2.1 ≤ l.length ∧ s.2.2.length = l.length ∧ s.2.2.take s.1 = (l.take s.2.1).filter (fun y => !p y) ∧ s.2.2.drop s.2.1 = l.drop s.2.1 ∧ OwnPr Pb w' (.slice (some ⟨g, 0, none⟩) l.length cap) s.2.2 ∧ Chg (fun b => (Value.slice (some (⟨g, 0, none⟩ : Addr)) l.length cap).ownBlock = some b) w w') (fun s => l.length - s.2.1)
      (i, i + 1, l) ⟨rfl, rfl, rfl, rfl, trivial⟩ ⟨by simp, by simp only; omega, rfl, ?_, rfl, h.new plainPr n1, n1.any⟩ ?_
    · simp only
      rw [take_snoc hi0, List.filter_append, List.filter_eq_self.2 (fun y hy => by simp [hbef y hy])]
      simp [hpy]
    rintro ⟨i, j, xs⟩ G w2 ⟨hij, hj, hxl, htk, hdr, ox, c2⟩
    dsimp only at hij hj hxl htk hdr ox c2
    simp only [upds]
    (repeat' (first | refine Wl.moveE (by conv => { lhs; whnf }) ?_ | refine Wl.nil ?_ | refine Wl.lenS rfl ?_ | refine Qseq.normal ?_ | refine Wc.seq ?_ | refine Wc.region ?_ | refine Wc.block ?_ | refine Wc.skip ?_ | refine Wc.exit ?_ | refine Qseq.exit ?_ | refine Qblk.hit ?_ | refine Qloop.exit ?_ | refine Wc.condT rfl ?_ | refine Wc.condF rfl ?_ | refine Wl.lss rfl rfl (fun _ => ?_) (fun _ => ?_)))
    · obtain ⟨y, hy⟩ := get_lt l (k := j) (by omega)
      have hxy : xs[j]? = some y := by
        have := congrArg (fun q => q[0]?) hdr
        simpa [hy] using this
      have hox : OwnPr Pb w2 (.slice (some ⟨g, 0, none⟩) l.length cap) xs := ox
      have hrd := ox.rd (mono_flat pC)
      refine Wl.idxAddr hrd rfl rfl (by omega) hxy fun b o cs hl hR hat => ?_
      obtain rfl : cs = pC y := hR
      refine Wl.loadAt hat rfl rfl ?_
      refine Wl.alloc fun w3 b3 n3 s3 => ?_
      refine Wl.storeB (new := pC y) b3 rfl rfl rfl rfl (show (2 : Nat) ≤ 2 from Nat.le_refl 2) (goodPr.oc (fun _ => True) w y _ rfl rfl) fun w4 b4 c4 s4 => ?_
      replace b4 : Bk w4 w2.heap.size 39 (pC y) := b4
      have hs2 := c2.size
      have n24 : New w2 w4 := Chg.trans n3 c4 fun k hk e => by omega
      have ox4 := ox.new plainPr n24
      have c24 := Chg.trans c2 (n24.any (M := fun b => (Value.slice (some (⟨g, 0, none⟩ : Addr)) l.length cap).ownBlock = some b)) fun _ _ e => e
      (repeat' (first | refine Wl.moveE (by conv => { lhs; whnf }) ?_ | refine Wl.nil ?_ | refine Qseq.normal ?_ | refine Wc.seq ?_ | refine Wc.region ?_))
      refine Wl.loadB b4 rfl rfl ?_
      refine Wl.callV (dst := some 28) rfl (hf y w4 (List.mem_of_getElem? hy) c24) rfl ?_
      rintro _ w5 ⟨rfl, n5⟩
      simp only [updO]
      have b5 := b4.chg n5 id
      have ox5 := ox4.new plainPr n5
      have c5 := Chg.trans c24 (n5.any (M := fun b => (Value.slice (some (⟨g, 0, none⟩ : Addr)) l.length cap).ownBlock = some b)) fun _ _ e => e
      cases hp : p y with
      | true =>
        (repeat' (first | refine Wl.moveE (by conv => { lhs; whnf }) ?_ | refine Wl.assignE (by conv => { lhs; whnf }) ?_ | refine Wl.nil ?_ | refine Wl.notB rfl ?_ | refine Qseq.normal ?_ | refine Wc.region ?_ | refine Wc.skip ?_ | refine Qblk.normal ?_ | refine Wc.condF rfl ?_ | refine Wl.add rfl rfl (by omega) (by omega) ?_))
        refine Qloop.normal (i, j + 1, xs) ⟨rfl, rfl, rfl, rfl, trivial⟩ ⟨by dsimp only; omega, by dsimp only; omega, hxl, ?_, ?_, ox5, c5⟩ (by dsimp only; omega)
        · dsimp only
          rw [htk, take_snoc hy, List.filter_append]; simp [hp]
        · dsimp only
          have := congrArg (List.drop 1) hdr
          simpa [List.drop_drop] using this
      | false =>
        (repeat' (first | refine Wl.moveE (by conv => { lhs; whnf }) ?_ | refine Wl.nil ?_ | refine Wl.notB rfl ?_ | refine Qseq.normal ?_ | refine Wc.seq ?_ | refine Wc.region ?_ | refine Wc.condT rfl ?_))
        refine Wl.loadB b5 rfl rfl ?_
        refine Wl.idxP rfl rfl (by omega) (by omega) ?_
        refine Wl.storeOwnA (f := pC) (q := y) (j := i) (sz := 2) (cap := cap) (fun _ => rfl) (fun x c hc => goodPr.oc (fun _ => True) w x _ rfl rfl c hc) ox5 (by rw [hxl]) (by omega) (by show Value.pointer (some ⟨g, 0 + (i : Int).toNat * 2, none⟩) = _; simp) rfl rfl fun w6 o6 c6 => ?_
        (repeat' (first | refine Wl.moveE (by conv => { lhs; whnf }) ?_ | refine Wl.assignE (by conv => { lhs; whnf }) ?_ | refine Wl.nil ?_ | refine Qseq.normal ?_ | refine Wc.region ?_ | refine Qblk.normal ?_ | refine Wl.add rfl rfl (by omega) (by omega) ?_))
        refine Qloop.normal (i + 1, j + 1, xs.set i y) ⟨rfl, rfl, rfl, rfl, trivial⟩ ⟨by dsimp only; omega, by dsimp only; omega, by simpa using hxl, ?_, ?_, o6, Chg.trans c5 c6 fun _ _ e => e⟩ (by dsimp only; omega)
        · dsimp only
          have hget : (xs.set i y)[i]? = some y := by rw [List.getElem?_set, if_pos rfl, if_pos (by omega)]
          rw [take_snoc hget, List.take_set_of_le (Nat.le_refl i), htk, take_snoc hy, List.filter_append]; simp [hp]
        · dsimp only
          rw [List.drop_set_of_lt (by omega)]
          have := congrArg (List.drop 1) hdr
          simpa [List.drop_drop] using this
    · have e : j = l.length := by omega
      subst e
      rw [List.take_length] at htk
      refine Wl.clearTail (f := pC) (i := i) (cap := cap) (by simp [Value.cells]; rfl) ox (by rw [hxl]) rfl rfl (by omega) rfl fun u w3 o3 c3 => ?_
      (repeat' (first | refine Wl.moveE (by conv => { lhs; whnf }) ?_ | refine Wl.nil ?_ | refine Qseq.normal ?_ | refine Wc.seq ?_ | refine Wc.region ?_))
      refine Wl.sliceToP rfl rfl (by omega) ?_
      (repeat' (first | refine Wl.assignE (by conv => { lhs; whnf }) ?_ | refine Wl.nil ?_ | refine Qseq.normal ?_ | refine Wc.ret ?_))
      refine Qfn.ret1 rfl rfl ⟨_, rfl, ?_, fun b hb => hb, Chg.trans c2 c3 fun _ _ e => e⟩
      rw [← htk]
      exact o3
end Go.Proofs.YtjpebmgllfiloaaDoor
