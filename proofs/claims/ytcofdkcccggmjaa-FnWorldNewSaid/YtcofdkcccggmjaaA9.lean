/- A region whose order is open: each operation keeps the invariant; what it comes to at the end. -/
import Derived.Test.YtcofdkcccggmjaaA8
namespace Go.Proofs.Ytcofdkcccggmjaa.Am
open Go

/-- What holds when just the listed operations have been done. -/
structure DI {P : Program} {cf : CF} {N : Nat} {ops : Array Oper} (R : Reg P cf N ops) (listed : Array Bool) (μ : Nat → Loc) (a : Act) (w : World) : Prop where
  sz : listed.size = R.n
  closed : ∀ i j, R.L listed i → j ∈ R.bf i → R.L listed j
  size : a.tmps.size = N
  dfr : a.defers = []
  tmp : ∀ x, (∃ i ao, i < R.n ∧ R.L listed i ∧ R.os[i]? = some ao ∧ ao.d = some x ∧ (∀ j aj, R.L listed j → R.os[j]? = some aj → aj.d = some x → j ≤ i) ∧ RV μ (R.Aout i) (R.p.v i) (a.tmps.getD x Go.undef)) ∨
    ((∀ i ao, R.L listed i → R.os[i]? = some ao → ao.d ≠ some x) ∧ RV μ R.A0 (R.t0 x) (a.tmps.getD x Go.undef))
  agree : ∀ id, R.A0 id → μ id = R.μ0 id
  os : w.os = R.w0.os
  tape : w.tape = R.w0.tape
  output : w.output = R.w0.output
  sizeW : R.w0.heap.size ≤ w.heap.size
  frame : ∀ b, b < R.w0.heap.size → (∀ id o, R.g0 id = some o → o.ro = false → (R.μ0 id).blk ≠ b) → w.heap[b]? = R.w0.heap[b]?
  dom : ∀ id o, R.G listed id = some o → R.AS listed id
  blk : ∀ id o, R.G listed id = some o → (μ id).blk < w.heap.size
  ob : ∀ id o, R.G listed id = some o → ObRel μ (R.AS listed) o (μ id) w
  inj : ∀ id id' o o', R.G listed id = some o → R.G listed id' = some o' → o.ro = false → id ≠ id' → (μ id).blk ≠ (μ id').blk
  roo : ∀ id o, R.G listed id = some o → o.ro = true → ∃ o0, R.g0 id = some o0 ∧ o0.ro = true
  own : ∀ id o, R.G listed id = some o → o.ro = false → R.w0.heap.size ≤ (μ id).blk ∨ ∃ id0 o0, R.g0 id0 = some o0 ∧ o0.ro = false ∧ (R.μ0 id0).blk = (μ id).blk
  stat : ∀ j, j < R.n → R.L listed j → ∀ id o, (R.p.r j).get id = some o → R.Aout j id ∧ ∀ c, c ∈ o.cells → ∃ (ν : Nat → Loc) (u : Value), RV ν (R.Aout j) c u

theorem ObRel.change {μ ν : Nat → Loc} {A B : Nat → Prop} {o : Ob} {l : Loc} {w : World} (h : ObRel μ A o l w) (hc : ∀ c ∈ o.cells, ∀ u, RV μ A c u → RV ν B c u) : ObRel ν B o l w := by
  obtain ⟨h0, h1, h2⟩ := h
  refine ⟨h0, fun hr j v hv => ?_, fun hr => ?_⟩
  · obtain ⟨v', h3, h4⟩ := h1 hr j v hv
    exact ⟨v', h3, hc v (List.mem_of_getElem? hv) _ h4⟩
  · obtain ⟨h3, c, e, h4, h5, h6, h7⟩ := h2 hr
    exact ⟨h3, c, e, h4, h5, h6, fun j v hv => by obtain ⟨v', h8, h9⟩ := h7 j v hv; exact ⟨v', h8, hc v (List.mem_of_getElem? hv) _ h9⟩⟩
theorem ObRel.world {μ : Nat → Loc} {A : Nat → Prop} {o : Ob} {l : Loc} {w w' : World} (h : ObRel μ A o l w) (hb : w'.heap[l.blk]? = w.heap[l.blk]?) : ObRel μ A o l w' := by
  obtain ⟨h0, h1, h2⟩ := h
  refine ⟨h0, fun hr j v hv => ?_, fun hr => ?_⟩
  · obtain ⟨v', h3, h4⟩ := h1 hr j v hv
    exact ⟨v', by simp only [World.cell?] at h3 ⊢; rw [hb]; exact h3, h4⟩
  · obtain ⟨h3, c, e, h4, h5, h6, h7⟩ := h2 hr
    exact ⟨h3, c, e, by rw [hb]; exact h4, h5, h6, h7⟩
theorem ObRel.cells_rv {μ : Nat → Loc} {A : Nat → Prop} {o : Ob} {l : Loc} {w : World} (h : ObRel μ A o l w) : ∀ c ∈ o.cells, ∃ u, RV μ A c u := by
  intro c hc
  obtain ⟨j, hj⟩ := List.getElem?_of_mem hc
  cases hr : o.ro with
  | true => obtain ⟨v', _, h4⟩ := h.2.1 hr j c hj; exact ⟨v', h4⟩
  | false => obtain ⟨_, c', e, _, _, _, h7⟩ := h.2.2 hr; obtain ⟨v', _, h4⟩ := h7 j c hj; exact ⟨v', h4⟩

section
variable {P : Program} {cf : CF} {N : Nat} {ops : Array Oper} (R : Reg P cf N ops)
namespace Reg

theorem L_set {listed : Array Bool} {i : Nat} (hi : i < listed.size) (j : Nat) : R.L (listed.setIfInBounds i true) j ↔ j = i ∨ R.L listed j := by
  unfold L
  simp only [Array.getD_eq_getD_getElem?, Array.getElem?_setIfInBounds]
  by_cases h : i = j
  · subst h; simp [hi]
  · rw [if_neg h]
    constructor
    · exact .inr
    · rintro (h1 | h1)
      · exact absurd h1.symm h
      · exact h1

/-- What is listed is done: as the table has it behind this one. -/
theorem ready_bf {listed : Array Bool} {μ : Nat → Loc} {a : Act} {w : World} (D : DI R listed μ a w) {i : Nat} (hr : i ∈ Region.ready .any ops listed) : i < R.n ∧ ¬ R.L listed i ∧ ∀ j ∈ R.bf i, R.L listed j := by
  obtain ⟨h0, o, ho, hall⟩ := mem_ready.1 hr
  have hi : i < ops.size := (Array.getElem?_eq_some_iff.1 ho).1
  have hin : i < R.n := by rw [R.n_size]; exact hi
  refine ⟨hin, ?_, fun j hj => ?_⟩
  · unfold L
    have : i < listed.size := by rw [D.sz]; exact hin
    simp only [Array.getD_eq_getD_getElem?, Array.getElem?_eq_getElem this, Option.getD_some] at h0 ⊢
    rw [h0]; simp
  · obtain ⟨o', ho', e, he, hb, hor⟩ := R.hb.sound i j hj
    rw [ho] at ho'
    injection ho' with ho'
    subst ho'
    have hL : R.L listed e.on := hall e he hb
    rcases hor with rfl | hor
    · exact hL
    · exact D.closed _ _ hL hor

variable {R} {listed : Array Bool} {μ : Nat → Loc} {a : Act} {w : World}

theorem g0_lt {id : Nat} {o : Ob} (h : R.g0 id = some o) : R.A0 id ∧ id < R.n0 := ⟨R.h0.dom id o h, R.h0.lt id (R.h0.dom id o h)⟩

theorem Ain_AS {i : Nat} (hi : i < R.n) (hbf : ∀ j ∈ R.bf i, R.L listed j) {id : Nat} (h : R.Ain i id) : R.AS listed id := by
  rcases h with h | ⟨k, h1, h2⟩
  · exact .inl h
  · exact .inr ⟨k, by have := R.bf_lt h1; omega, hbf k h1, h2⟩
theorem Aout_AS (D : DI R listed μ a w) {j : Nat} (hj : j < R.n) (hL : R.L listed j) {id : Nat} (h : R.Aout j id) : R.AS listed id := by
  rcases h with h | ⟨k, rfl | h1, h2⟩
  · exact .inl h
  · exact .inr ⟨k, hj, hL, h2⟩
  · exact .inr ⟨k, by have := R.bf_lt h1; omega, D.closed _ _ hL h1, h2⟩
theorem Ain_lt {i : Nat} (hi : i < R.n) {id : Nat} (h : R.Ain i id) : id < R.nx i := by
  rcases h with h | ⟨k, h1, h2⟩
  · exact Nat.lt_of_lt_of_le (R.h0.lt id h) (R.n0_le (by omega))
  · have := R.bf_lt h1
    exact Nat.lt_of_lt_of_le h2.2 (R.nx_le (by omega) (by omega))

/-- Cells of what this operation sees mention what is known ahead of it. -/
theorem B_cells (D : DI R listed μ a w) {i : Nat} (hi : i < R.n) (hbf : ∀ j ∈ R.bf i, R.L listed j) {id : Nat} {o : Ob} (h : R.B i id = some o) : R.Ain i id ∧ ∀ c ∈ o.cells, ∃ (ν : Nat → Loc) (u : Value), RV ν (R.Ain i) c u := by
  by_cases hex : ∃ j, j < R.n ∧ (j ∈ R.bf i ∧ hit R.n0 (R.p.r j) id)
  · obtain ⟨j, hj, ⟨hjb, hjh⟩, hmax⟩ := exists_max hex
    rw [R.B_some hi hjb hjh fun k hk hkh => hmax k (by have := R.bf_lt hk; omega) ⟨hk, hkh⟩] at h
    obtain ⟨h1, h2⟩ := D.stat j hj (hbf j hjb) id o h
    exact ⟨R.Aout_Ain hjb h1, fun c hc => by obtain ⟨ν, u, hr⟩ := h2 c hc; exact ⟨ν, u, hr.mono (fun k hk => R.Aout_Ain hjb hk) (fun _ _ => rfl)⟩⟩
  · rw [R.B_none hi fun j hj hh => hex ⟨j, by have := R.bf_lt hj; omega, hj, hh⟩] at h
    refine ⟨.inl (g0_lt h).1, fun c hc => ?_⟩
    obtain ⟨u, hu⟩ := (R.h0.ob id o h).cells_rv c hc
    exact ⟨_, u, hu.mono (fun k hk => .inl hk) (fun _ _ => rfl)⟩

/-- An operation that looks at memory sees, of what was there ahead of it, what is there. -/
theorem B_same (D : DI R listed μ a w) {i : Nat} (hi : i < R.n) (hnL : ¬ R.L listed i) (hbf : ∀ j ∈ R.bf i, R.L listed j) {id : Nat} (hmk : ∀ k, k < R.n → R.rng k id → k ∈ R.bf i) (hlk : (R.p.r i).lk = some none ∨ (R.p.r i).lk = some (some id)) :
    R.G listed id = R.B i id := by
  have hwr : ∀ k, k < R.n → R.L listed k → hit R.n0 (R.p.r k) id → k ∈ R.bf i := by
    intro k hk hL hh
    rcases (R.hit_iff hk).1 hh with h | h
    · exact hmk k hk h
    · have hne : i ≠ k := fun e => hnL (e ▸ hL)
      rcases R.cmp_at hk hi hne h hlk with h2 | h2
      · exact absurd (D.closed k i hL h2) hnL
      · exact h2
  by_cases hex : ∃ j, j < R.n ∧ (j ∈ R.bf i ∧ hit R.n0 (R.p.r j) id)
  · obtain ⟨j, hj, ⟨hjb, hjh⟩, hmax⟩ := exists_max hex
    rw [R.B_some hi hjb hjh fun k hk hkh => hmax k (by have := R.bf_lt hk; omega) ⟨hk, hkh⟩]
    exact R.G_some hj (hbf j hjb) hjh fun k hk hL hkh => hmax k hk ⟨hwr k hk hL hkh, hkh⟩
  · rw [R.B_none hi fun j hj hh => hex ⟨j, by have := R.bf_lt hj; omega, hj, hh⟩]
    exact R.G_none fun j hj hL hh => hex ⟨j, hj, hwr j hj hL hh, hh⟩
theorem B_old (D : DI R listed μ a w) {i : Nat} (hi : i < R.n) (hnL : ¬ R.L listed i) (hbf : ∀ j ∈ R.bf i, R.L listed j) {id : Nat} (hid : id < R.n0) (hlk : (R.p.r i).lk = some none ∨ (R.p.r i).lk = some (some id)) :
    R.G listed id = R.B i id :=
  B_same D hi hnL hbf (fun k hk h => by have := R.rng_ge hk h; omega) hlk
theorem B_sub (D : DI R listed μ a w) {i : Nat} (hi : i < R.n) (hnL : ¬ R.L listed i) (hbf : ∀ j ∈ R.bf i, R.L listed j) {id : Nat} {o : Ob} (hlk : (R.p.r i).lk = some none ∨ (R.p.r i).lk = some (some id)) (h : R.B i id = some o) :
    R.G listed id = some o := by
  rw [B_same D hi hnL hbf (fun k hk hr => ?_) hlk]
  · exact h
  · rcases (B_cells D hi hbf h).1 with h2 | ⟨j, h2, h3⟩
    · have := R.h0.lt id h2
      have := R.rng_ge hk hr
      simp only at *
      omega
    · rw [R.rng_uniq hk (by have := R.bf_lt h2; omega) hr h3]; exact h2
/-- Whoever changed a row knew it. -/
theorem wr_A (D : DI R listed μ a w) {k : Nat} (hk : k < R.n) (hL : R.L listed k) {id : Nat} (h : (R.p.r k).wr id) : R.Aout k id := by
  have hao : R.os[k]? = some (R.os[k]'hk) := List.getElem?_eq_getElem hk
  rcases R.p.done k _ hao with ⟨_, _, h3, _⟩ | ⟨_, _, h3, _⟩ | ⟨_, ⟨_, _, _, _, _, _, _, h3⟩, _⟩ | ⟨_, q, X, _, _, h3, _⟩
  · rw [h3] at h; exact h.elim
  · rw [h3] at h; exact h.elim
  · rw [h3] at h; exact h.elim
  · have hw := h
    rw [h3] at hw
    obtain ⟨_, hw⟩ := hw
    cases hX : X.get id with
    | some o => exact (D.stat k hk hL id o (by rw [h3]; exact hX)).1
    | none =>
      have hB : ∃ o, R.B k id = some o := by
        cases hB : R.B k id with
        | some o => exact ⟨o, rfl⟩
        | none => exact absurd (hX.trans hB.symm) hw
      obtain ⟨o, hB⟩ := hB
      rcases (B_cells D hk (fun j hj => D.closed k j hL hj) hB).1 with h2 | ⟨j, h2, h4⟩
      · exact .inl h2
      · exact .inr ⟨j, .inr h2, h4⟩

/-- What this operation sees lies as told. -/
theorem B_rel (D : DI R listed μ a w) {i : Nat} (hi : i < R.n) (hnL : ¬ R.L listed i) (hbf : ∀ j ∈ R.bf i, R.L listed j) (hlk : (R.p.r i).lk = some none) : RelH μ (R.Ain i) ⟨R.nx i, R.B i⟩ w := by
  have hs := fun {id o} (h : R.B i id = some o) => B_sub D hi hnL hbf (.inl hlk) h
  refine ⟨fun id h => Ain_lt hi h, fun id o h => (B_cells D hi hbf h).1, fun id o h => D.blk id o (hs h), fun id o h => ?_, fun id id' o o' h h' => D.inj id id' o o' (hs h) (hs h')⟩
  refine (D.ob id o (hs h)).change fun c hc u hu => ?_
  obtain ⟨ν, u', hr⟩ := (B_cells D hi hbf h).2 c hc
  exact hu.restrict hr
/-- .. of one row alone. -/
theorem B_rel1 (D : DI R listed μ a w) {i : Nat} (hi : i < R.n) (hnL : ¬ R.L listed i) (hbf : ∀ j ∈ R.bf i, R.L listed j) {rid : Nat} (hlk : (R.p.r i).lk = some (some rid)) : RelH μ (R.Ain i) ⟨R.nx i, fun id => if id = rid then R.B i id else none⟩ w := by
  have hb : ∀ {id o}, (if id = rid then R.B i id else none) = some o → id = rid ∧ R.B i id = some o := by
    intro id o h
    split at h
    · exact ⟨by assumption, h⟩
    · cases h
  have hs := fun {id o} (h : (if id = rid then R.B i id else none) = some o) => B_sub D hi hnL hbf (.inr (by rw [hlk, (hb h).1])) (hb h).2
  refine ⟨fun id h => Ain_lt hi h, fun id o h => (B_cells D hi hbf (hb h).2).1, fun id o h => D.blk id o (hs h), fun id o h => ?_, fun id id' o o' h h' => D.inj id id' o o' (hs h) (hs h')⟩
  refine (D.ob id o (hs h)).change fun c hc u hu => ?_
  obtain ⟨ν, u', hr⟩ := (B_cells D hi hbf (hb h).2).2 c hc
  exact hu.restrict hr

/-- A value that no operation reads stands for anything. -/
def seen (us : List Nat) (t : Nat → Value) : Nat → Value := fun x => if x ∈ us then t x else .chan none

theorem tmp_at (D : DI R listed μ a w) {i : Nat} (hi : i < R.n) (hnL : ¬ R.L listed i) (hbf : ∀ j ∈ R.bf i, R.L listed j) {ao : AO} (hao : R.os[i]? = some ao) {x : Nat} (hx : x ∈ ao.us ∨ ao.d = some x) :
    RV μ (R.Ain i) (R.p.tt i x) (a.tmps.getD x Go.undef) := by
  -- who writes x and is done comes ahead of i in the table, and the other way round
  have hw : ∀ j aj, R.os[j]? = some aj → aj.d = some x → R.L listed j → j ∈ R.bf i := by
    intro j aj hj hd hL
    have hjn : j < R.n := (List.getElem?_eq_some_iff.1 hj).1
    have hne : j ≠ i := fun e => hnL (e ▸ hL)
    rcases R.apart_at hi hjn hne hao hj hd hx with ⟨_, h⟩ | ⟨_, h⟩
    · exact h
    · exact absurd (D.closed j i hL h) hnL
  have hw' : ∀ j aj, R.os[j]? = some aj → aj.d = some x → j < i → j ∈ R.bf i := by
    intro j aj hj hd hji
    have hjn : j < R.n := (List.getElem?_eq_some_iff.1 hj).1
    rcases R.apart_at hi hjn (by omega) hao hj hd hx with ⟨_, h⟩ | ⟨h, _⟩
    · exact h
    · omega
  rcases D.tmp x with ⟨j, aj, hjn, hL, hj, hd, hmax, hr⟩ | ⟨hno, hr⟩
  · have hjb := hw j aj hj hd hL
    have hji := R.bf_lt hjb
    rcases tt_last R x i (by omega) with ⟨k, ak, h1, h2, h3, h4, h5⟩ | ⟨h1, _⟩
    · have hkb := hw' k ak h2 h3 h1
      have e1 := hmax k ak (hbf k hkb) h2 h3
      have e2 := h4 j aj hji hj hd
      have : k = j := by omega
      subst this
      rw [h5]
      exact hr.mono (fun id h => R.Aout_Ain hjb h) (fun _ _ => rfl)
    · exact absurd hd (h1 j aj hji hj)
  · rcases tt_last R x i (by omega) with ⟨k, ak, h1, h2, h3, h4, h5⟩ | ⟨_, h2⟩
    · exact absurd h3 (hno k ak (hbf k (hw' k ak h2 h3 h1)) h2)
    · rw [h2]
      exact hr.mono (fun id h => .inl h) (fun _ _ => rfl)
theorem seen_rt (D : DI R listed μ a w) {i : Nat} (hi : i < R.n) (hnL : ¬ R.L listed i) (hbf : ∀ j ∈ R.bf i, R.L listed j) {ao : AO} (hao : R.os[i]? = some ao) : RT μ (R.Ain i) N (seen ao.us (R.p.tt i)) a := by
  refine ⟨D.size, fun x => ?_⟩
  unfold seen
  split
  · rename_i hx; exact tmp_at D hi hnL hbf hao (.inl hx)
  · exact .junk _

/-- The invariant behind an operation that leaves the heap alone. -/
theorem DI.pure (D : DI R listed μ a w) {i : Nat} (hi : i < R.n) (hnL : ¬ R.L listed i) (hbf : ∀ j ∈ R.bf i, R.L listed j) {ao : AO} (hao : R.os[i]? = some ao) (hdN : ∀ k, ao.d = some k → k < N)
    (hr : R.p.r i = ⟨R.nx i, R.nx i, fun _ => False, R.g0, (R.p.r i).lk⟩) (hn : R.nx (i + 1) = R.nx i) {v' : Value} (hv : RV μ (R.Ain i) (R.p.v i) v') : DI R (listed.setIfInBounds i true) μ (a.put ao.d v') w := by
  have hil : i < listed.size := by rw [D.sz]; exact hi
  have hLs := fun j => R.L_set hil j
  have hnohit : ∀ id, ¬ hit R.n0 (R.p.r i) id := by
    intro id h
    rcases (R.hit_iff hi).1 h with ⟨h1, h2⟩ | h1
    · rw [hn] at h2; omega
    · rw [hr] at h1; exact h1
  have hG : ∀ id, R.G (listed.setIfInBounds i true) id = R.G listed id := by
    intro id
    by_cases hex : ∃ j, j < R.n ∧ (R.L listed j ∧ hit R.n0 (R.p.r j) id)
    · obtain ⟨j, hj, ⟨hL, hh⟩, hmax⟩ := exists_max hex
      rw [R.G_some hj hL hh fun k hk hLk hkh => hmax k hk ⟨hLk, hkh⟩]
      refine R.G_some hj ((hLs j).2 (.inr hL)) hh fun k hk hLk hkh => ?_
      rcases (hLs k).1 hLk with rfl | h
      · exact absurd hkh (hnohit id)
      · exact hmax k hk ⟨h, hkh⟩
    · rw [R.G_none fun j hj hL hh => hex ⟨j, hj, hL, hh⟩]
      refine R.G_none fun j hj hL hh => ?_
      rcases (hLs j).1 hL with rfl | h
      · exact hnohit id hh
      · exact hex ⟨j, hj, h, hh⟩
  have hAS : R.AS (listed.setIfInBounds i true) = R.AS listed := by
    funext id
    simp only [AS, eq_iff_iff]
    constructor
    · rintro (h | ⟨k, h1, h2, h3⟩)
      · exact .inl h
      · rcases (hLs k).1 h2 with rfl | h
        · have := h3.1; have := h3.2; rw [hn] at this; omega
        · exact .inr ⟨k, h1, h, h3⟩
    · rintro (h | ⟨k, h1, h2, h3⟩)
      · exact .inl h
      · exact .inr ⟨k, h1, (hLs k).2 (.inr h2), h3⟩
  have hAo : ∀ id, R.Ain i id → R.Aout i id := fun id h => by
    rcases h with h | ⟨k, h1, h2⟩
    · exact .inl h
    · exact .inr ⟨k, .inr h1, h2⟩
  refine ⟨by rw [Array.size_setIfInBounds]; exact D.sz, fun k j hL hj => ?_, ?_, by rw [put_defers]; exact D.dfr, fun x => ?_, D.agree, D.os, D.tape, D.output, D.sizeW, D.frame, fun id o h => ?_, fun id o h => D.blk id o (hG id ▸ h), fun id o h => ?_,
    fun id id' o o' h h' => D.inj id id' o o' (hG id ▸ h) (hG id' ▸ h'), fun id o h => D.roo id o (hG id ▸ h), fun id o h => D.own id o (hG id ▸ h), fun j hj hL id o ho => ?_⟩
  · rcases (hLs k).1 hL with rfl | h
    · exact (hLs j).2 (.inr (hbf j hj))
    · exact (hLs j).2 (.inr (D.closed k j h hj))
  · cases hd : ao.d <;> simp [Act.put, D.size]
  · by_cases hx : ao.d = some x
    · refine .inl ⟨i, ao, hi, (hLs i).2 (.inl rfl), hao, hx, fun j aj hL hj hd => ?_, ?_⟩
      · rcases (hLs j).1 hL with rfl | h
        · exact Nat.le_refl _
        · have hjn : j < R.n := (List.getElem?_eq_some_iff.1 hj).1
          have hne : j ≠ i := fun e => hnL (e ▸ h)
          rcases R.apart_at hi hjn hne hao hj hd (.inr hx) with ⟨h1, _⟩ | ⟨_, h1⟩
          · omega
          · exact absurd (D.closed j i h h1) hnL
      · rw [hx]
        have hxN := hdN x hx
        simp only [Act.put, Array.getD_eq_getD_getElem?, Array.getElem?_setIfInBounds, if_pos]
        rw [if_pos (by rw [D.size]; exact hxN)]
        exact hv.mono hAo (fun _ _ => rfl)
    · have hg : (a.put ao.d v').tmps.getD x Go.undef = a.tmps.getD x Go.undef := by
        cases hd : ao.d with
        | none => rfl
        | some d =>
          have : d ≠ x := fun e => hx (by rw [hd, e])
          simp only [Act.put, Array.getD_eq_getD_getElem?, Array.getElem?_setIfInBounds, if_neg this]
      rw [hg]
      rcases D.tmp x with ⟨j, aj, hjn, hL, hj, hd, hmax, hr'⟩ | ⟨hno, hr'⟩
      · refine .inl ⟨j, aj, hjn, (hLs j).2 (.inr hL), hj, hd, fun k ak hLk hk hdk => ?_, hr'⟩
        rcases (hLs k).1 hLk with rfl | h
        · rw [hao] at hk; injection hk with hk; subst hk; exact absurd hdk hx
        · exact hmax k ak h hk hdk
      · refine .inr ⟨fun k ak hLk hk hdk => ?_, hr'⟩
        rcases (hLs k).1 hLk with rfl | h
        · rw [hao] at hk; injection hk with hk; subst hk; exact hx hdk
        · exact hno k ak h hk hdk
  · rw [hAS]; exact D.dom id o (hG id ▸ h)
  · rw [hAS]; exact D.ob id o (hG id ▸ h)
  · rcases (hLs j).1 hL with rfl | h
    · rw [hr] at ho
      refine ⟨.inl (g0_lt ho).1, fun c hc => ?_⟩
      obtain ⟨u, hu⟩ := (R.h0.ob id o ho).cells_rv c hc
      exact ⟨_, u, hu.mono (fun k hk => .inl hk) (fun _ _ => rfl)⟩
    · exact D.stat j hj h id o ho

/-- The invariant behind an operation that looks at memory. -/
theorem DI.heap (D : DI R listed μ a w) {i : Nat} (hi : i < R.n) (hnL : ¬ R.L listed i) (hbf : ∀ j ∈ R.bf i, R.L listed j) {ao : AO} (hao : R.os[i]? = some ao) (hdN : ∀ k, ao.d = some k → k < N) {K : Hp}
    (hr : R.p.r i = ⟨R.nx i, K.next, fun id => id < R.nx i ∧ K.get id ≠ R.B i id, K.get, some none⟩) (hn : R.nx (i + 1) = K.next)
    {v' : Value} {w' : World} (hout : Out μ (R.Ain i) ⟨R.nx i, R.B i⟩ w (R.p.v i) K v' w') : ∃ ν, DI R (listed.setIfInBounds i true) ν (a.put ao.d v') w' := by
  obtain ⟨ν, hE, hv⟩ := hout
  have hil : i < listed.size := by rw [D.sz]; exact hi
  have hLs := fun j => R.L_set hil j
  have hnn : R.nx (i + 1) = K.next := hn
  have hext : ext (R.Ain i) (⟨R.nx i, R.B i⟩ : Hp).next K.next = R.Aout i := by rw [← hnn]; exact R.ext_Ain i
  rw [hext] at hv
  have hrel := hE.rel
  rw [hext] at hrel
  have hn0i : R.n0 ≤ R.nx i := R.n0_le (by omega)
  -- the new numbering
  let ξ : Nat → Loc := fun id => if R.nx i ≤ id ∧ id < R.nx (i + 1) then ν id else μ id
  have hξin : ∀ id, R.rng i id → ξ id = ν id := fun id h => if_pos h
  have hξout : ∀ id, ¬ R.rng i id → ξ id = μ id := fun id h => if_neg h
  have hξA : ∀ id, R.Ain i id → ξ id = μ id ∧ ν id = μ id := by
    intro id h
    refine ⟨hξout id fun h2 => ?_, hE.agree id h⟩
    have := Ain_lt hi h
    have := h2.1
    omega
  have hξo : ∀ id, R.Aout i id → ξ id = ν id := by
    intro id h
    by_cases h2 : R.rng i id
    · exact hξin id h2
    · have : R.Ain i id := by
        rcases h with h | ⟨k, rfl | h1, h3⟩
        · exact .inl h
        · exact absurd h3 h2
        · exact .inr ⟨k, h1, h3⟩
      rw [(hξA id this).1, (hξA id this).2]
  have hξS : ∀ id, R.AS listed id → ξ id = μ id := by
    intro id h
    refine hξout id fun h2 => ?_
    rcases h with h | ⟨k, h1, h3, h4⟩
    · have := R.h0.lt id h; have := h2.1; simp only at *; omega
    · have := R.rng_uniq h1 hi h4 h2
      subst this; exact hnL h3
  have hASsub : ∀ id, R.AS listed id → R.AS (listed.setIfInBounds i true) id := by
    rintro id (h | ⟨k, h1, h2, h3⟩)
    · exact .inl h
    · exact .inr ⟨k, h1, (hLs k).2 (.inr h2), h3⟩
  have hAosub : ∀ id, R.Aout i id → R.AS (listed.setIfInBounds i true) id := by
    rintro id (h | ⟨k, rfl | h1, h2⟩)
    · exact .inl h
    · exact .inr ⟨k, hi, (hLs k).2 (.inl rfl), h2⟩
    · exact .inr ⟨k, by have := R.bf_lt h1; omega, (hLs k).2 (.inr (hbf k h1)), h2⟩
  have hlk : (R.p.r i).lk = some none := by rw [hr]
  have hBsub := fun {id o} (h : R.B i id = some o) => B_sub D hi hnL hbf (.inl hlk) h
  -- what is there then: what this operation left, and else what was there
  have hcase : ∀ id o, R.G (listed.setIfInBounds i true) id = some o → (K.get id = some o ∧ ξ id = ν id) ∨ (R.G listed id = some o ∧ R.B i id = none ∧ ¬ R.rng i id ∧ K.get id = none ∧ ξ id = μ id) := by
    intro id o h
    by_cases hri : R.rng i id
    · have hh : hit R.n0 (R.p.r i) id := (R.hit_iff hi).2 (.inl hri)
      rw [R.G_some hi ((hLs i).2 (.inl rfl)) hh fun k hk hLk hkh => ?_] at h
      · rw [hr] at h; exact .inl ⟨h, hξin id hri⟩
      · rcases (hLs k).1 hLk with rfl | hL
        · exact Nat.le_refl _
        · rcases (R.hit_iff hk).1 hkh with h1 | h1
          · rw [R.rng_uniq hi hk hri h1]; exact Nat.le_refl _
          · exfalso
            rcases wr_A D hk hL h1 with h2 | ⟨j, h2, h3⟩
            · have := R.h0.lt id h2
              have := R.rng_ge hi hri
              simp only at *
              omega
            · have hjk : j < R.n := by
                rcases h2 with rfl | h2
                · exact hk
                · have := R.bf_lt h2; omega
              have : i = j := R.rng_uniq hi hjk hri h3
              subst this
              rcases h2 with rfl | h2
              · exact hnL hL
              · exact hnL (D.closed _ _ hL h2)
    · by_cases hwr : (R.p.r i).wr id
      · -- it is the last that wrote
        have hh : hit R.n0 (R.p.r i) id := (R.hit_iff hi).2 (.inr hwr)
        have hK : K.get id = some o := by
          rw [R.G_some hi ((hLs i).2 (.inl rfl)) hh fun k hk hLk hkh => ?_] at h
          · rw [hr] at h; exact h
          · rcases (hLs k).1 hLk with rfl | hL
            · exact Nat.le_refl _
            · rcases (R.hit_iff hk).1 hkh with h1 | h1
              · -- the maker of the row comes ahead
                rcases Nat.lt_or_ge i k with h5 | h5
                · exfalso
                  rw [hr] at hwr
                  have h6 := R.nx_le (show i ≤ k by omega) (by omega)
                  have := h1.1
                  have := hwr.1
                  omega
                · exact h5
              · have hne : i ≠ k := fun e => hnL (e ▸ hL)
                rcases R.cmp_at hk hi hne h1 (.inl hlk) with h2 | h2
                · exact absurd (D.closed k i hL h2) hnL
                · have := R.bf_lt h2; omega
        exact .inl ⟨hK, hξo id (hrel.dom id o hK)⟩
      · have hnohit : ¬ hit R.n0 (R.p.r i) id := fun h2 => by
          rcases (R.hit_iff hi).1 h2 with h3 | h3
          · exact hri h3
          · exact hwr h3
        have hG : R.G listed id = some o := by
          rw [← h]
          by_cases hex : ∃ j, j < R.n ∧ (R.L listed j ∧ hit R.n0 (R.p.r j) id)
          · obtain ⟨j, hj, ⟨hL, hh⟩, hmax⟩ := exists_max hex
            rw [R.G_some hj hL hh fun k hk hLk hkh => hmax k hk ⟨hLk, hkh⟩]
            exact (R.G_some hj ((hLs j).2 (.inr hL)) hh fun k hk hLk hkh => by
              rcases (hLs k).1 hLk with rfl | h3
              · exact absurd hkh hnohit
              · exact hmax k hk ⟨h3, hkh⟩).symm
          · rw [R.G_none fun j hj hL hh => hex ⟨j, hj, hL, hh⟩]
            exact (R.G_none fun j hj hL hh => by
              rcases (hLs j).1 hL with rfl | h3
              · exact hnohit hh
              · exact hex ⟨j, hj, h3, hh⟩).symm
        have hKB : id < R.nx i → K.get id = R.B i id := by
          intro hl
          rw [hr] at hwr
          exact Classical.byContradiction fun e => hwr ⟨hl, e⟩
        cases hB : R.B i id with
        | none =>
          right
          refine ⟨hG, rfl, hri, ?_, hξout id hri⟩
          rcases Nat.lt_or_ge id (R.nx i) with hl | hl
          · rw [hKB hl]; exact hB
          · cases hK : K.get id with
            | none => rfl
            | some o' =>
              have h1 := hrel.lt id (hrel.dom id o' hK)
              exact absurd ⟨hl, by rw [hnn]; exact h1⟩ hri
        | some o' =>
          have hGo := hBsub hB
          rw [hG] at hGo
          injection hGo with hGo
          subst hGo
          have hA := (B_cells D hi hbf hB).1
          refine .inl ⟨?_, (hξA id hA).1.trans (hξA id hA).2.symm⟩
          rw [hKB (Ain_lt hi hA)]
          exact hB
  -- a block that this operation doesn't know
  have hfar : ∀ id o, R.G listed id = some o → R.B i id = none → w'.heap[(μ id).blk]? = w.heap[(μ id).blk]? := by
    intro id o hG hB
    refine hE.frame _ (D.blk id o hG) fun id2 o2 h2 hro h3 => ?_
    have hne : id2 ≠ id := fun e => by subst e; simp only at h2; rw [hB] at h2; cases h2
    exact D.inj id2 id o2 o (hBsub h2) hG hro hne h3
  refine ⟨ξ, by rw [Array.size_setIfInBounds]; exact D.sz, fun k j hL hj => ?_, ?_, by rw [put_defers]; exact D.dfr, fun x => ?_, fun id h => ?_, hE.os.trans D.os, hE.tape.trans D.tape, hE.output.trans D.output, Nat.le_trans D.sizeW hE.size, fun b hb hf => ?_,
    fun id o h => ?_, fun id o h => ?_, fun id o h => ?_, fun id id' o o' h h' hro hne => ?_, fun id o h hro => ?_, fun id o h hro => ?_, fun j hj hL id o ho => ?_⟩
  · rcases (hLs k).1 hL with rfl | h
    · exact (hLs j).2 (.inr (hbf j hj))
    · exact (hLs j).2 (.inr (D.closed k j h hj))
  · cases hd : ao.d <;> simp [Act.put, D.size]
  · by_cases hx : ao.d = some x
    · refine .inl ⟨i, ao, hi, (hLs i).2 (.inl rfl), hao, hx, fun j aj hL hj hd => ?_, ?_⟩
      · rcases (hLs j).1 hL with rfl | h
        · exact Nat.le_refl _
        · have hjn : j < R.n := (List.getElem?_eq_some_iff.1 hj).1
          have hne : j ≠ i := fun e => hnL (e ▸ h)
          rcases R.apart_at hi hjn hne hao hj hd (.inr hx) with ⟨h1, _⟩ | ⟨_, h1⟩
          · omega
          · exact absurd (D.closed j i h h1) hnL
      · rw [hx]
        have hxN := hdN x hx
        simp only [Act.put, Array.getD_eq_getD_getElem?, Array.getElem?_setIfInBounds, if_pos]
        rw [if_pos (by rw [D.size]; exact hxN)]
        exact hv.mono (fun _ h => h) hξo
    · have hg : (a.put ao.d v').tmps.getD x Go.undef = a.tmps.getD x Go.undef := by
        cases hd : ao.d with
        | none => rfl
        | some d =>
          have : d ≠ x := fun e => hx (by rw [hd, e])
          simp only [Act.put, Array.getD_eq_getD_getElem?, Array.getElem?_setIfInBounds, if_neg this]
      rw [hg]
      rcases D.tmp x with ⟨j, aj, hjn, hL, hj, hd, hmax, hr'⟩ | ⟨hno, hr'⟩
      · refine .inl ⟨j, aj, hjn, (hLs j).2 (.inr hL), hj, hd, fun k ak hLk hk hdk => ?_, hr'.mono (fun _ h => h) fun id h => hξS id (Aout_AS D hjn hL h)⟩
        rcases (hLs k).1 hLk with rfl | h
        · rw [hao] at hk; injection hk with hk; subst hk; exact absurd hdk hx
        · exact hmax k ak h hk hdk
      · refine .inr ⟨fun k ak hLk hk hdk => ?_, hr'.mono (fun _ h => h) fun id h => hξS id (.inl h)⟩
        rcases (hLs k).1 hLk with rfl | h
        · rw [hao] at hk; injection hk with hk; subst hk; exact hx hdk
        · exact hno k ak h hk hdk
  · rw [hξS id (.inl h)]; exact D.agree id h
  · rw [hE.frame b (Nat.lt_of_lt_of_le hb D.sizeW) fun id o h hro he => ?_]
    · exact D.frame b hb hf
    · rcases D.own id o (hBsub h) hro with h1 | ⟨id0, o0, h1, h2, h3⟩
      · rw [he] at h1; omega
      · exact hf id0 o0 h1 h2 (h3.trans he)
  · rcases hcase id o h with ⟨hK, _⟩ | ⟨hG, _⟩
    · exact hAosub id (hrel.dom id o hK)
    · exact hASsub id (D.dom id o hG)
  · rcases hcase id o h with ⟨hK, hx⟩ | ⟨hG, _, _, _, hx⟩
    · rw [hx]; exact hrel.blk id o hK
    · rw [hx]; exact Nat.lt_of_lt_of_le (D.blk id o hG) hE.size
  · rcases hcase id o h with ⟨hK, hx⟩ | ⟨hG, hB, _, _, hx⟩
    · rw [hx]
      exact (hrel.ob id o hK).change fun c _ u hu => hu.mono hAosub hξo
    · rw [hx]
      exact ((D.ob id o hG).world (hfar id o hG hB)).change fun c _ u hu => hu.mono hASsub hξS
  · rcases hcase id o h with ⟨hK, hx⟩ | ⟨hG, hB, _, _, hx⟩ <;> rcases hcase id' o' h' with ⟨hK', hx'⟩ | ⟨hG', hB', _, _, hx'⟩
    · rw [hx, hx']; exact hrel.inj id id' o o' hK hK' hro hne
    · rw [hx, hx']
      rcases hE.own id o hK hro with h1 | ⟨id0, o0, h1, h2, h3⟩
      · have := D.blk id' o' hG'; omega
      · rw [← h3]
        refine D.inj id0 id' o0 o' (hBsub h1) hG' h2 fun e => ?_
        subst e; simp only at h1; rw [hB'] at h1; cases h1
    · rw [hx, hx']
      cases hro' : o'.ro with
      | false =>
        rcases hE.own id' o' hK' hro' with h1 | ⟨id0, o0, h1, h2, h3⟩
        · have := D.blk id o hG; omega
        · rw [← h3]
          refine fun e => D.inj id0 id o0 o (hBsub h1) hG h2 (fun e => ?_) e.symm
          subst e; simp only at h1; rw [hB] at h1; cases h1
      | true =>
        obtain ⟨o0, h1, _⟩ := hE.roo id' o' hK' hro'
        have hA : R.Ain i id' := (B_cells D hi hbf h1).1
        rw [(hξA id' hA).2]
        exact D.inj id id' o o0 hG (hBsub h1) hro hne
    · rw [hx, hx']; exact D.inj id id' o o' hG hG' hro hne
  · rcases hcase id o h with ⟨hK, _⟩ | ⟨hG, _⟩
    · obtain ⟨o0, h1, h2⟩ := hE.roo id o hK hro
      exact D.roo id o0 (hBsub h1) h2
    · exact D.roo id o hG hro
  · rcases hcase id o h with ⟨hK, hx⟩ | ⟨hG, _, _, _, hx⟩
    · rw [hx]
      rcases hE.own id o hK hro with h1 | ⟨id0, o0, h1, h2, h3⟩
      · exact .inl (Nat.le_trans D.sizeW h1)
      · rw [← h3]; exact D.own id0 o0 (hBsub h1) h2
    · rw [hx]; exact D.own id o hG hro
  · rcases (hLs j).1 hL with rfl | h
    · rw [hr] at ho
      refine ⟨hrel.dom id o ho, fun c hc => ?_⟩
      obtain ⟨u, hu⟩ := (hrel.ob id o ho).cells_rv c hc
      exact ⟨_, u, hu⟩
    · exact D.stat j hj h id o ho
end Reg
end
end Go.Proofs.Ytcofdkcccggmjaa.Am
