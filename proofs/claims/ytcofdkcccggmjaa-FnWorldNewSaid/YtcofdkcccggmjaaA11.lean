/- The abstract machine is sound: what a call forgets when it hands back. -/
import Derived.Test.YtcofdkcccggmjaaA10
namespace Go.Proofs.Ytcofdkcccggmjaa.Am
open Go

theorem mem_dedup {x : Nat} : ∀ {l : List Nat}, x ∈ dedup l ↔ x ∈ l
  | [] => Iff.rfl
  | a :: r => by
    simp only [dedup]
    split
    · rename_i h
      rw [mem_dedup (l := r), List.mem_cons]
      exact ⟨.inr, fun h2 => h2.elim (fun e => e ▸ h) (fun h => h)⟩
    · rw [List.mem_cons, List.mem_cons, mem_dedup (l := r)]
theorem nodup_dedup : ∀ l : List Nat, (dedup l).Pairwise (· ≠ ·)
  | [] => List.Pairwise.nil
  | a :: r => by
    simp only [dedup]
    split
    · exact nodup_dedup r
    · rename_i h
      exact List.Pairwise.cons (fun b hb e => h (e ▸ mem_dedup.1 hb)) (nodup_dedup r)
theorem idx_at {i : Nat} : ∀ {ids : List Nat}, i ∈ ids → ids[idx ids i]? = some i
  | [], h => by cases h
  | a :: r, h => by
    simp only [idx]
    by_cases e : i = a
    · rw [if_pos e]; simp [e]
    · rw [if_neg e]
      rcases List.mem_cons.1 h with h | h
      · exact absurd h e
      · simpa using idx_at h
theorem newIds_ge {n : Nat} {v : Value} {i : Nat} (h : i ∈ newIds n v) : n ≤ i := by
  unfold newIds at h
  have := (List.mem_filter.1 (mem_dedup.1 h)).2
  simpa using this
theorem mem_newIds {n : Nat} {v c : Value} {i : Nat} (hc : c ∈ comps v) (hi : i ∈ cellIds c) (hn : n ≤ i) : i ∈ newIds n v := by
  unfold newIds
  exact mem_dedup.2 (List.mem_filter.2 ⟨List.mem_flatMap.2 ⟨c, hc, hi⟩, by simpa using hn⟩)

theorem takeObs_at {K : Hp} : ∀ {ids : List Nat} {os : List (Option Ob)}, takeObs K ids = some os → os.length = ids.length ∧ ∀ (k i : Nat) o, ids[k]? = some i → os[k]? = some (some o) → K.get i = some o ∧ o.ro = false ∧ o.cells.all flatB = true
  | [], os, h => by simp only [takeObs, Option.some.injEq] at h; subst h; exact ⟨rfl, fun k i o h => by simp at h⟩
  | a :: r, os, h => by
    simp only [takeObs] at h
    split at h
    · rename_i o ho
      split at h
      · rename_i hf
        simp only [Option.map_eq_some_iff] at h
        obtain ⟨os', h1, rfl⟩ := h
        obtain ⟨h2, h3⟩ := takeObs_at h1
        refine ⟨by simp [h2], fun k i q hk hq => ?_⟩
        cases k with
        | zero => simp at hk hq; subst hk; subst hq; exact ⟨ho, hf.1, hf.2⟩
        | succ k => exact h3 k i q (by simpa using hk) (by simpa using hq)
      · cases h
    · simp only [Option.map_eq_some_iff] at h
      obtain ⟨os', h1, rfl⟩ := h
      obtain ⟨h2, h3⟩ := takeObs_at h1
      refine ⟨by simp [h2], fun k i q hk hq => ?_⟩
      cases k with
      | zero => simp at hq
      | succ k => exact h3 k i q (by simpa using hk) (by simpa using hq)
theorem addO_next (H : Hp) (o : Option Ob) : (H.addO o).next = H.next + 1 := by cases o <;> rfl
theorem addAll_next (H : Hp) : ∀ os : List (Option Ob), (H.addAll os).next = H.next + os.length
  | [] => rfl
  | o :: r => by rw [Hp.addAll, addAll_next (H.addO o) r, addO_next]; simp; omega
theorem addAll_get (H : Hp) : ∀ (os : List (Option Ob)) (i : Nat), (H.addAll os).get i = if i < H.next then H.get i else match os[i - H.next]? with | some (some o) => some o | some none => none | none => H.get i
  | [], i => by simp [Hp.addAll]
  | o :: r, i => by
    rw [Hp.addAll, addAll_get (H.addO o) r i]
    have hn := addO_next H o
    have hg : ∀ j, j ≠ H.next → (H.addO o).get j = H.get j := by
      intro j hj
      cases o with
      | none => simp [Hp.addO, Hp.addN, hj]
      | some o => exact Hp.add_get_ne hj
    by_cases h1 : i < H.next
    · rw [if_pos (show i < (H.addO o).next by omega), if_pos h1, hg i (by omega)]
    · rw [if_neg h1]
      by_cases h2 : i = H.next
      · subst h2
        rw [if_pos (show H.next < (H.addO o).next by omega)]
        cases o with
        | none => simp [Hp.addO, Hp.addN]
        | some o => simp [Hp.addO, Hp.add_get_self]
      · rw [if_neg (show ¬ i < (H.addO o).next by omega), hg i h2]
        have e : i - H.next = (i - (H.addO o).next) + 1 := by omega
        rw [e, List.getElem?_cons_succ]

section
variable {μ ν : Nat → Loc} {A : Nat → Prop} {H K : Hp} {w w' : World}

theorem renC_rv {ξ : Nat → Loc} {B C : Nat → Prop} {σ : Nat → Nat} {c u : Value} (hr : RV ν B c u) (hc : cellB c = true) (h : ∀ i, i ∈ cellIds c → B i → C (σ i) ∧ ξ (σ i) = ν i) : RV ξ C (renC σ c) u := by
  cases hr with
  | bool b => exact .bool b
  | int k n => exact .int k n
  | str s => exact .str s
  | nilPtr => exact .nilPtr
  | nilSl => exact .nilSl
  | nilFn => exact .nilFn
  | nilIf => exact .nilIf
  | junk w => cases hc
  | ptr id off hA =>
    obtain ⟨h1, h2⟩ := h id (by simp [cellIds]) hA
    rw [← h2]
    exact .ptr (σ id) off h1
  | slFull id off len c s hA hl hs hz =>
    obtain ⟨h1, h2⟩ := h id (by simp [cellIds]) hA
    rw [← h2]
    exact .slFull (σ id) off len c s h1 hl hs (by rw [h2]; exact hz)
  | slAny id off len c hA hl =>
    obtain ⟨h1, h2⟩ := h id (by simp [cellIds]) hA
    rw [← h2]
    exact .slAny (σ id) off len c h1 hl
  | slZ id off m ad hA hz =>
    obtain ⟨h1, h2⟩ := h id (by simp [cellIds]) hA
    exact .slZ (σ id) off m ad h1 (by rw [h2]; exact hz)
  | agg _ _ _ _ => cases hc
  | tup _ _ _ _ => cases hc
  | fn _ _ _ _ _ _ _ _ _ => cases hc
theorem renA_rv {ξ : Nat → Loc} {B C : Nat → Prop} {σ : Nat → Nat} {v u : Value} (hr : RV ν B v u) (hc : ∀ c ∈ v.cells.toList, cellB c = true) (h : ∀ c ∈ v.cells.toList, ∀ i, i ∈ cellIds c → B i → C (σ i) ∧ ξ (σ i) = ν i) : RV ξ C (renA σ v) u := by
  cases v with
  | agg cs =>
    obtain ⟨ds, rfl, hl⟩ := hr.agg_inv
    simp only [renA]
    have hcs : (Value.agg cs).cells = cs := rfl
    rw [hcs] at hc h
    refine RV.agg_of' ⟨by rw [Array.toList_map, List.length_map]; exact hl.len, fun i x y hx hy => ?_⟩
    rw [Array.toList_map, List.getElem?_map, Option.map_eq_some_iff] at hx
    obtain ⟨c, hcc, rfl⟩ := hx
    have hm := List.mem_of_getElem? hcc
    exact renC_rv (hl.at_ i c y hcc hy) (hc c hm) (h c hm)
  | _ => exact renC_rv hr (hc _ (by simp [Value.cells])) (h _ (by simp [Value.cells]))
theorem renV_rv {ξ : Nat → Loc} {B C : Nat → Prop} {σ : Nat → Nat} {v u : Value} (hr : RV ν B v u) (hc : ∀ c ∈ comps v, cellB c = true) (h : ∀ c ∈ comps v, ∀ i, i ∈ cellIds c → B i → C (σ i) ∧ ξ (σ i) = ν i) : RV ξ C (renV σ v) u := by
  cases v with
  | tuple vs =>
    obtain ⟨us, rfl, hl⟩ := hr.tup_inv
    simp only [renV]
    have := RV.tup_of (μ := ξ) (A := C) (l := (vs.map (renA σ)).toList) (m := us.toList) ⟨by rw [Array.toList_map, List.length_map]; exact hl.len, fun i x y hx hy => by
      rw [Array.toList_map, List.getElem?_map, Option.map_eq_some_iff] at hx
      obtain ⟨c, hcc, rfl⟩ := hx
      have hm := List.mem_of_getElem? hcc
      exact renA_rv (hl.at_ i c y hcc hy) (fun d hd => hc d (by simp only [comps]; exact List.mem_flatMap.2 ⟨c, hm, hd⟩)) (fun d hd => h d (by simp only [comps]; exact List.mem_flatMap.2 ⟨c, hm, hd⟩))⟩
    exact this
  | _ => exact renA_rv hr hc h

theorem gcRet_out {v v' u : Value} {L : Hp} (hH : RelH μ A H w) (hE : Ext μ A H w ν K w') (hv : RV ν (ext A H.next K.next) v u) (h : gcRet H v K = some (v', L)) : Out μ A H w v' L u w' := by
  unfold gcRet at h
  split at h
  · rename_i hq
    obtain ⟨hq, hcb⟩ := hq
    simp only [Option.map_eq_some_iff, Prod.mk.injEq] at h
    obtain ⟨os, hos, rfl, rfl⟩ := h
    obtain ⟨hlen, hat⟩ := takeObs_at hos
    have hrel := hE.rel
    let ids := newIds H.next v
    let ξ : Nat → Loc := fun i => if i < H.next then μ i else match ids[i - H.next]? with | some j => ν j | none => μ i
    have hξA : ∀ i, A i → ξ i = μ i := fun i hi => if_pos (hH.lt i hi)
    have hνA : ∀ i, A i → ν i = μ i := hE.agree
    have hξnew : ∀ k j, ids[k]? = some j → ξ (H.next + k) = ν j := by
      intro k j hk
      show (if H.next + k < H.next then _ else _) = _
      rw [if_neg (by omega)]
      have : H.next + k - H.next = k := by omega
      rw [this, hk]
    have hnext : (H.addAll os).next = H.next + ids.length := by rw [addAll_next, hlen]
    -- the rows behind: those that were, and the new ones
    have hget : ∀ i o, (H.addAll os).get i = some o → (A i ∧ H.get i = some o ∧ K.get i = some o) ∨ (∃ k j, i = H.next + k ∧ ids[k]? = some j ∧ K.get j = some o ∧ o.ro = false ∧ o.cells.all flatB = true) := by
      intro i o h
      rw [addAll_get] at h
      split at h
      · rename_i hi; exact .inl ⟨hH.dom i o h, h, by rw [hq i hi]; exact h⟩
      · rename_i hi
        split at h
        · rename_i o' ho'
          injection h with h
          subst h
          have hk : i - H.next < ids.length := by rw [← hlen]; exact (List.getElem?_eq_some_iff.1 ho').1
          obtain ⟨h1, h2, h3⟩ := hat _ _ _ (List.getElem?_eq_getElem hk) ho'
          exact .inr ⟨i - H.next, _, by omega, List.getElem?_eq_getElem hk, h1, h2, h3⟩
        · cases h
        · have := hH.lt i (hH.dom i o h); omega
    have hAext : ∀ i, A i → ext A H.next (H.addAll os).next i := fun i hi => .inl hi
    refine ⟨ξ, ⟨hξA, by rw [hnext]; omega, ⟨fun i hi => ?_, fun i o h => ?_, fun i o h => ?_, fun i o h => ?_, fun i i' o o' h h' hro hne => ?_⟩, hE.os, hE.tape, hE.output, hE.size, hE.frame, fun i o h hro => ?_, fun i o h hro => ?_⟩, ?_⟩
    · rcases hi with hi | hi
      · have := hH.lt i hi; rw [hnext]; omega
      · exact hi.2
    · rcases hget i o h with ⟨hA, _, _⟩ | ⟨k, j, rfl, hk, _⟩
      · exact .inl hA
      · refine .inr ⟨by omega, ?_⟩
        rw [hnext]
        have := (List.getElem?_eq_some_iff.1 hk).1
        omega
    · rcases hget i o h with ⟨hA, h1, _⟩ | ⟨k, j, rfl, hk, hj, _⟩
      · rw [hξA i hA]; exact Nat.lt_of_lt_of_le (hH.blk i o h1) hE.size
      · rw [hξnew k j hk]; exact hrel.blk j o hj
    · rcases hget i o h with ⟨hA, h1, h2⟩ | ⟨k, j, rfl, hk, hj, _, hf⟩
      · rw [hξA i hA, ← hνA i hA]
        refine (hrel.ob i o h2).change fun c hc x hx => ?_
        obtain ⟨y, hy⟩ := (hH.ob i o h1).cells_rv c hc
        exact (hx.restrict hy).mono hAext (fun m hm => (hξA m hm).trans (hνA m hm).symm)
      · rw [hξnew k j hk]
        refine (hrel.ob j o hj).change fun c hc x hx => ?_
        have hfc := List.all_eq_true.1 hf c hc
        rw [hx.flat_eq hfc]
        exact RV.of_flat hfc
    · rcases hget i o h with ⟨hA, _, h2⟩ | ⟨k, j, rfl, hk, hj, _⟩ <;> rcases hget i' o' h' with ⟨hA', _, h2'⟩ | ⟨k', j', rfl, hk', hj', _⟩
      · rw [hξA i hA, hξA i' hA', ← hνA i hA, ← hνA i' hA']; exact hrel.inj i i' o o' h2 h2' hro hne
      · rw [hξA i hA, hξnew k' j' hk', ← hνA i hA]
        refine hrel.inj i j' o o' h2 hj' hro fun e => ?_
        have := newIds_ge (List.mem_of_getElem? hk'); have := hH.lt i hA; omega
      · rw [hξnew k j hk, hξA i' hA', ← hνA i' hA']
        refine hrel.inj j i' o o' hj h2' hro fun e => ?_
        have := newIds_ge (List.mem_of_getElem? hk); have := hH.lt i' hA'; omega
      · rw [hξnew k j hk, hξnew k' j' hk']
        refine hrel.inj j j' o o' hj hj' hro fun e => ?_
        have hkl := (List.getElem?_eq_some_iff.1 hk)
        have hkl' := (List.getElem?_eq_some_iff.1 hk')
        have hnd := nodup_dedup (((comps v).flatMap cellIds).filter fun i => decide (H.next ≤ i))
        rw [List.pairwise_iff_getElem] at hnd
        obtain ⟨l1, e1⟩ := hkl
        obtain ⟨l2, e2⟩ := hkl'
        rcases Nat.lt_trichotomy k k' with hlt | rfl | hlt
        · exact hnd k k' l1 l2 hlt (e1.trans (e.trans e2.symm))
        · exact hne rfl
        · exact hnd k' k l2 l1 hlt (e2.trans (e.symm.trans e1.symm))
    · rcases hget i o h with ⟨_, h1, _⟩ | ⟨k, j, rfl, hk, hj, hr, _⟩
      · exact ⟨o, h1, hro⟩
      · rw [hr] at hro; cases hro
    · rcases hget i o h with ⟨hA, h1, _⟩ | ⟨k, j, rfl, hk, hj, hr, _⟩
      · rw [hξA i hA]; exact .inr ⟨i, o, h1, hro, rfl⟩
      · rw [hξnew k j hk]; exact hE.own j o hj hro
    · refine renV_rv hv (fun c hc => List.all_eq_true.1 hcb c hc) fun c hc i hi hB => ?_
      by_cases hlt : i < H.next
      · rw [if_pos hlt]
        have hA : A i := by
          rcases hB with h | h
          · exact h
          · omega
        exact ⟨.inl hA, (hξA i hA).trans (hνA i hA).symm⟩
      · rw [if_neg hlt]
        have hm : i ∈ ids := mem_newIds hc hi (by omega)
        have hk := idx_at hm
        have hkl : idx ids i < ids.length := (List.getElem?_eq_some_iff.1 hk).1
        exact ⟨.inr ⟨by omega, by rw [hnext]; show H.next + idx ids i < _; omega⟩, hξnew _ _ hk⟩
  · cases h
end
end Go.Proofs.Ytcofdkcccggmjaa.Am
