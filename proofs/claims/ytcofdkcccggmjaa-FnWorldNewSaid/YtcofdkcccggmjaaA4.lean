/- How the abstract heap lies in the model's memory; what looks at memory, but for calls, comes to the same. -/
import Derived.Test.YtcofdkcccggmjaaA3
import Derived.Laws.Append
import Derived.Laws.World
import Derived.IntWalk
namespace Go.Proofs.Ytcofdkcccggmjaa.Am
open Go

def ObRel (μ : Nat → Loc) (A : Nat → Prop) (o : Ob) (l : Loc) (w : World) : Prop := o.cells.all one1 = true ∧
  (o.ro = true → ∀ (j : Nat) (v : Value), o.cells[j]? = some v → ∃ v', w.cell? ⟨l.blk, l.off + j, none⟩ = some v' ∧ RV μ A v v') ∧
  (o.ro = false → l.off = 0 ∧ ∃ c e, w.heap[l.blk]? = some (.cells c e (0, 0)) ∧ c.size = l.size ∧ o.cells.length ≤ c.size ∧
    ∀ (j : Nat) (v : Value), o.cells[j]? = some v → ∃ v', c[j]? = some v' ∧ RV μ A v v')

structure RelH (μ : Nat → Loc) (A : Nat → Prop) (H : Hp) (w : World) : Prop where
  lt : ∀ id, A id → id < H.next
  dom : ∀ id o, H.get id = some o → A id
  blk : ∀ id o, H.get id = some o → (μ id).blk < w.heap.size
  ob : ∀ id o, H.get id = some o → ObRel μ A o (μ id) w
  inj : ∀ id id' o o', H.get id = some o → H.get id' = some o' → o.ro = false → id ≠ id' → (μ id).blk ≠ (μ id').blk

def ext (A : Nat → Prop) (a b : Nat) : Nat → Prop := fun i => A i ∨ (a ≤ i ∧ i < b)
theorem ext_self (A : Nat → Prop) (a : Nat) : ext A a a = A := by
  funext i; simp only [ext, eq_iff_iff]; constructor
  · rintro (h | ⟨h, k⟩)
    · exact h
    · omega
  · exact .inl
theorem ext_ext (A : Nat → Prop) {a b c : Nat} (h : a ≤ b) (k : b ≤ c) : ext (ext A a b) b c = ext A a c := by
  funext i; simp only [ext, eq_iff_iff]; constructor
  · rintro ((h | ⟨h1, h2⟩) | ⟨h1, h2⟩)
    · exact .inl h
    · exact .inr ⟨h1, by omega⟩
    · exact .inr ⟨by omega, h2⟩
  · rintro (h | ⟨h1, h2⟩)
    · exact .inl (.inl h)
    · by_cases h3 : i < b
      · exact .inl (.inr ⟨h1, h3⟩)
      · exact .inr ⟨by omega, h2⟩

/-- What a stretch of the run may do: rows of its own, and those it was told. -/
structure Ext (μ : Nat → Loc) (A : Nat → Prop) (H : Hp) (w : World) (ν : Nat → Loc) (K : Hp) (w' : World) : Prop where
  agree : ∀ i, A i → ν i = μ i
  le : H.next ≤ K.next
  rel : RelH ν (ext A H.next K.next) K w'
  os : w'.os = w.os
  tape : w'.tape = w.tape
  output : w'.output = w.output
  size : w.heap.size ≤ w'.heap.size
  frame : ∀ b, b < w.heap.size → (∀ id o, H.get id = some o → o.ro = false → (μ id).blk ≠ b) → w'.heap[b]? = w.heap[b]?
  roo : ∀ id o, K.get id = some o → o.ro = true → ∃ o0, H.get id = some o0 ∧ o0.ro = true
  own : ∀ id o, K.get id = some o → o.ro = false → w.heap.size ≤ (ν id).blk ∨ ∃ id0 o0, H.get id0 = some o0 ∧ o0.ro = false ∧ (μ id0).blk = (ν id).blk

section
variable {μ ν : Nat → Loc} {A : Nat → Prop} {H K : Hp} {w w' : World}

theorem Ext.refl (h : RelH μ A H w) : Ext μ A H w μ H w :=
  ⟨fun _ _ => rfl, Nat.le_refl _, by rw [ext_self]; exact h, rfl, rfl, rfl, Nat.le_refl _, fun _ _ _ => rfl, fun id o h1 h2 => ⟨o, h1, h2⟩, fun id o h1 h2 => .inr ⟨id, o, h1, h2, rfl⟩⟩
theorem Ext.trans {ξ : Nat → Loc} {L : Hp} {w'' : World} (h : Ext μ A H w ν K w') (k : Ext ν (ext A H.next K.next) K w' ξ L w'') : Ext μ A H w ξ L w'' := by
  have e := ext_ext A h.le k.le
  refine ⟨fun i hi => (k.agree i (.inl hi)).trans (h.agree i hi), Nat.le_trans h.le k.le, by rw [← e]; exact k.rel, k.os.trans h.os, k.tape.trans h.tape, k.output.trans h.output,
    Nat.le_trans h.size k.size, fun b hb hf => ?_, fun id o h1 h2 => by obtain ⟨o1, h3, h4⟩ := k.roo id o h1 h2; exact h.roo id o1 h3 h4, fun id o h1 h2 => ?_⟩
  · rw [k.frame b (Nat.lt_of_lt_of_le hb h.size) (fun id o h1 h2 he => ?_), h.frame b hb hf]
    rcases h.own id o h1 h2 with h3 | ⟨id0, o0, h3, h4, h5⟩
    · rw [he] at h3; omega
    · exact hf id0 o0 h3 h4 (h5.trans he)
  · rcases k.own id o h1 h2 with h3 | ⟨id0, o0, h3, h4, h5⟩
    · exact .inl (Nat.le_trans h.size h3)
    · rcases h.own id0 o0 h3 h4 with h6 | ⟨id1, o1, h6, h7, h8⟩
      · exact .inl (by rw [← h5]; exact h6)
      · exact .inr ⟨id1, o1, h6, h7, h8.trans h5⟩

theorem RelH.cell (h : RelH μ A H w) {id : Nat} {o : Ob} (ho : H.get id = some o) {j : Nat} {v : Value} (hv : o.cells[j]? = some v) :
    ∃ v', w.cell? ⟨(μ id).blk, (μ id).off + j, none⟩ = some v' ∧ RV μ A v v' := by
  have hob := h.ob id o ho
  cases hr : o.ro with
  | true => exact hob.2.1 hr j v hv
  | false =>
    obtain ⟨h0, c, e, hc, _, _, hcs⟩ := hob.2.2 hr
    obtain ⟨v', hv', hrv⟩ := hcs j v hv
    exact ⟨v', by simp [World.cell?, hc, h0, hv'], hrv⟩

/-- What is read of a row. -/
theorem RelH.read (h : RelH μ A H w) {id off k : Nat} {cs : List Value} (hl : ldCells H id off k = some cs) :
    ∃ ds : List Value, ds.length = k ∧ RL μ A cs ds ∧ ∀ (j : Nat) (v : Value), ds[j]? = some v → w.cell? (Addr.add ⟨(μ id).blk, (μ id).off + off, none⟩ j) = some v := by
  unfold ldCells at hl
  split at hl
  · rename_i o ho
    split at hl
    · rename_i hk
      injection hl with hl
      subst hl
      refine ⟨(List.range k).map fun j => (w.cell? ⟨(μ id).blk, (μ id).off + off + j, none⟩).getD Go.undef, by simp, ⟨by simp; omega, fun i v v' hv hv' => ?_⟩, fun j v hv => ?_⟩
      · rw [List.getElem?_take] at hv
        split at hv
        · rename_i hik
          rw [List.getElem?_drop] at hv
          obtain ⟨u, hu, hr⟩ := h.cell ho hv
          rw [List.getElem?_map, List.getElem?_range hik, Option.map_some, Option.some.injEq] at hv'
          rw [Nat.add_assoc, hu, Option.getD_some] at hv'
          subst hv'
          exact hr
        · cases hv
      · have hj : j < k := by have := (List.getElem?_eq_some_iff.1 hv).1; simpa using this
        rw [List.getElem?_map, List.getElem?_range hj, Option.map_some, Option.some.injEq] at hv
        obtain ⟨u, hu, hr⟩ := h.cell ho (j := off + j) (v := o.cells[off + j]'(by omega)) (List.getElem?_eq_getElem (by omega))
        rw [add_ptr, Nat.add_assoc, hu]
        rw [Nat.add_assoc, hu, Option.getD_some] at hv
        rw [hv]
    · cases hl
  · cases hl

/-- Memory in which one block was written. -/
structure Put1 (g : Nat) (o : Obj) (w w' : World) : Prop where
  os : w'.os = w.os
  tape : w'.tape = w.tape
  output : w'.output = w.output
  size : w'.heap.size = w.heap.size
  at_ : w'.heap[g]? = some o
  ne : ∀ b, b ≠ g → w'.heap[b]? = w.heap[b]?

theorem storeCells_run {P : Program} {g off : Nat} {e : TypeId} : ∀ (vs : List Value) (i : Nat) (c : Array Value) (w : World), w.heap[g]? = some (.cells c e (0, 0)) → off + i + vs.length ≤ c.size →
    (∀ v ∈ vs, v.oneCell' = true) → ∃ w' c', (storeCells ⟨g, off, none⟩ vs i).run P w = .ok () w' ∧ Put1 g (.cells c' e (0, 0)) w w' ∧ c'.toList = splice c.toList (off + i) vs ∧ c'.size = c.size
  | [], i, c, w, hg, _, _ => ⟨w, c, rfl, ⟨rfl, rfl, rfl, rfl, hg, fun _ _ => rfl⟩, by simp [splice], rfl⟩
  | v :: r, i, c, w, hg, hs, h1 => by
    simp only [List.length_cons] at hs
    have hcell : w.cell? ⟨g, off + i, none⟩ = some (c[off + i]'(by omega)) := by simp [World.cell?, hg]
    have hfz : w.frozen? ⟨g, off + i, none⟩ = false := by simp [World.frozen?, hg]
    have hgl : g < w.heap.size := (Array.getElem?_eq_some_iff.1 hg).1
    have hput : Put1 g (.cells (c.setIfInBounds (off + i) v) e (0, 0)) w (w.setCell ⟨g, off + i, none⟩ v) := by
      refine ⟨rfl, rfl, rfl, by simp [World.setCell], ?_, fun b hb => ?_⟩
      · have := (Array.getElem?_eq_some_iff.1 hg).2
        simp [World.setCell, Array.getElem?_modify, hg]
      · simp only [World.setCell, Array.getElem?_modify]
        rw [if_neg (by omega)]
    obtain ⟨w', c', hr, hp, hc, hcs⟩ := storeCells_run (P := P) (off := off) r (i + 1) (c.setIfInBounds (off + i) v) (w.setCell ⟨g, off + i, none⟩ v) hput.at_ (by rw [Array.size_setIfInBounds]; omega) (fun u hu => h1 u (List.mem_cons_of_mem _ hu))
    refine ⟨w', c', ?_, ⟨hp.os.trans hput.os, hp.tape.trans hput.tape, hp.output.trans hput.output, hp.size.trans hput.size, hp.at_, fun b hb => (hp.ne b hb).trans (hput.ne b hb)⟩, ?_, by rw [hcs, Array.size_setIfInBounds]⟩
    · have hst := run_store P w ⟨g, off + i, none⟩ v .plain (h1 v List.mem_cons_self)
      simp only [storeCells, add_ptr, Sem.run_bind, hst, hcell, hfz, Bool.false_eq_true, if_false, Result.andThen_ok]
      exact hr
    · rw [hc]
      apply List.ext_getElem?
      intro q
      have hcl : c.toList.length = c.size := Array.length_toList
      rw [splice_get (by rw [Array.toList_setIfInBounds, List.length_set]; omega), splice_get (by rw [List.length_cons]; omega), Array.toList_setIfInBounds, List.length_cons]
      by_cases h2 : q < off + i
      · rw [if_pos (by omega), if_pos h2, List.getElem?_set_ne (by omega)]
      · rw [if_neg h2]
        by_cases h3 : q = off + i
        · subst h3
          rw [if_pos (by omega), if_pos (by omega), List.getElem?_set_self (by omega)]
          simp
        · rw [if_neg (by omega)]
          by_cases h4 : q < off + i + (r.length + 1)
          · rw [if_pos (by omega), if_pos h4]
            have e2 : q - (off + i) = (q - (off + (i + 1))) + 1 := by omega
            rw [e2, List.getElem?_cons_succ]
          · rw [if_neg (by omega), if_neg h4, List.getElem?_set_ne (by omega)]

/-- One row of ours is written. -/
theorem Ext.put (hH : RelH μ A H w) {id : Nat} {o : Ob} (ho : H.get id = some o) (hro : o.ro = false) {c : Array Value} {e : TypeId} {cs : List Value}
    (hp : Put1 (μ id).blk (.cells c e (0, 0)) w w') (hs : c.size = (μ id).size) (hl : cs.length ≤ c.size)
    (hc : ∀ (j : Nat) (v : Value), cs[j]? = some v → ∃ v', c[j]? = some v' ∧ RV μ A v v') (h1s : cs.all one1 = true) : Ext μ A H w μ (H.set id (some ⟨cs, false⟩)) w' := by
  have hA := hH.dom id o ho
  refine ⟨fun _ _ => rfl, Nat.le_refl _, ?_, hp.os, hp.tape, hp.output, Nat.le_of_eq hp.size.symm, fun b hb hf => hp.ne b (fun e => hf id o ho hro e.symm), fun j q h1 h2 => ?_, fun j q h1 h2 => ?_⟩
  · rw [show (H.set id (some ⟨cs, false⟩)).next = H.next from rfl, ext_self]
    refine ⟨hH.lt, fun j q hq => ?_, fun j q hq => ?_, fun j q hq => ?_, fun j j' q q' h1 h2 h3 h4 => ?_⟩
    · by_cases hj : j = id
      · subst hj; exact hA
      · rw [Hp.set_get_ne hj] at hq; exact hH.dom j q hq
    · rw [hp.size]
      by_cases hj : j = id
      · subst hj; exact hH.blk j o ho
      · rw [Hp.set_get_ne hj] at hq; exact hH.blk j q hq
    · by_cases hj : j = id
      · subst hj
        rw [Hp.set_get_self, Option.some.injEq] at hq
        subst hq
        exact ⟨h1s, (fun h => by cases h), fun _ => ⟨((hH.ob j o ho).2.2 hro).1, c, e, hp.at_, hs, hl, hc⟩⟩
      · rw [Hp.set_get_ne hj] at hq
        have hne : (μ j).blk ≠ (μ id).blk := fun h => hH.inj id j o q ho hq hro (Ne.symm hj) h.symm
        obtain ⟨k0, k1, k2⟩ := hH.ob j q hq
        refine ⟨k0, fun hr i v hv => ?_, fun hr => ?_⟩
        · obtain ⟨v', h1, h2⟩ := k1 hr i v hv
          exact ⟨v', by simp only [World.cell?] at h1 ⊢; rw [hp.ne _ hne]; exact h1, h2⟩
        · obtain ⟨h0, c', e', h1, h2⟩ := k2 hr
          exact ⟨h0, c', e', by rw [hp.ne _ hne]; exact h1, h2⟩
    · have key : ∀ j q, (H.set id (some ⟨cs, false⟩)).get j = some q → ∃ q0, H.get j = some q0 ∧ q0.ro = q.ro := by
        intro j q hq
        by_cases hj : j = id
        · subst hj
          rw [Hp.set_get_self, Option.some.injEq] at hq
          subst hq
          exact ⟨o, ho, hro⟩
        · rw [Hp.set_get_ne hj] at hq; exact ⟨q, hq, rfl⟩
      obtain ⟨q0, hq0, e0⟩ := key j q h1
      obtain ⟨q1, hq1, _⟩ := key j' q' h2
      exact hH.inj j j' q0 q1 hq0 hq1 (e0.trans h3) h4
  · by_cases hj : j = id
    · subst hj; rw [Hp.set_get_self, Option.some.injEq] at h1; subst h1; cases h2
    · rw [Hp.set_get_ne hj] at h1; exact ⟨q, h1, h2⟩
  · by_cases hj : j = id
    · subst hj; exact .inr ⟨j, o, ho, hro, rfl⟩
    · rw [Hp.set_get_ne hj] at h1; exact .inr ⟨j, q, h1, h2, rfl⟩

/-- A row is forgotten. -/
theorem RelH.drop (hH : RelH μ A H w) (id : Nat) : RelH μ A (H.set id none) w := by
  have key : ∀ j q, (H.set id none).get j = some q → H.get j = some q := by
    intro j q hq
    by_cases hj : j = id
    · subst hj; rw [Hp.set_get_self] at hq; cases hq
    · rw [Hp.set_get_ne hj] at hq; exact hq
  exact ⟨hH.lt, fun j q h => hH.dom j q (key j q h), fun j q h => hH.blk j q (key j q h), fun j q h => hH.ob j q (key j q h),
    fun j j' q q' h1 h2 => hH.inj j j' q q' (key j q h1) (key j' q' h2)⟩

def setLoc (μ : Nat → Loc) (id : Nat) (l : Loc) : Nat → Loc := fun i => if i = id then l else μ i
theorem setLoc_self (μ : Nat → Loc) (id : Nat) (l : Loc) : setLoc μ id l id = l := by simp [setLoc]
theorem setLoc_ne {μ : Nat → Loc} {id i : Nat} {l : Loc} (h : i ≠ id) : setLoc μ id l i = μ i := by simp [setLoc, h]

/-- A new row, in a block that no row of ours has (G: rows that may have had it are forgotten). -/
theorem Ext.new (hH : RelH μ A H w) {G : Hp} (hG : RelH μ A G w) (hGn : G.next = H.next) (hGH : ∀ id o, G.get id = some o → ∃ o', H.get id = some o' ∧ o'.ro = o.ro) {g n : Nat} {c : Array Value} {e : TypeId} {cs : List Value}
    (hos : w'.os = w.os) (htape : w'.tape = w.tape) (hout : w'.output = w.output) (hsz : w.heap.size ≤ w'.heap.size)
    (hg : w'.heap[g]? = some (.cells c e (0, 0))) (hne : ∀ b, b < w.heap.size → b ≠ g → w'.heap[b]? = w.heap[b]?)
    (hnew : w.heap.size ≤ g ∨ ∃ id0 o0, H.get id0 = some o0 ∧ o0.ro = false ∧ (μ id0).blk = g) (hfree : ∀ id o, G.get id = some o → (μ id).blk ≠ g)
    (hcn : c.size = n) (hl : cs.length ≤ c.size) (hc : ∀ (j : Nat) (v : Value), cs[j]? = some v → ∃ v', c[j]? = some v' ∧ RV μ A v v') (h1s : cs.all one1 = true) :
    Ext μ A H w (setLoc μ H.next ⟨g, 0, n⟩) (G.add ⟨cs, false⟩) w' := by
  have hfr : ∀ i, A i → i ≠ H.next := fun i hi => Nat.ne_of_lt (hH.lt i hi)
  have hag : ∀ i, A i → setLoc μ H.next ⟨g, 0, n⟩ i = μ i := fun i hi => setLoc_ne (hfr i hi)
  have hup : ∀ {v v' : Value}, RV μ A v v' → RV (setLoc μ H.next ⟨g, 0, n⟩) (ext A H.next (H.next + 1)) v v' := fun h => h.mono (fun i hi => .inl hi) hag
  have hgl : g < w'.heap.size := (Array.getElem?_eq_some_iff.1 hg).1
  refine ⟨hag, by simp [hGn], ?_, hos, htape, hout, hsz, fun b hb hf => hne b hb (fun e => ?_), fun j q h1 h2 => ?_, fun j q h1 h2 => ?_⟩
  · rw [show (G.add ⟨cs, false⟩).next = H.next + 1 by simp [hGn]]
    refine ⟨fun i hi => ?_, fun j q hq => ?_, fun j q hq => ?_, fun j q hq => ?_, fun j j' q q' h1 h2 h3 h4 => ?_⟩
    · simp only [Hp.add_next, hGn]
      rcases hi with hi | hi
      · exact Nat.lt_succ_of_lt (hH.lt i hi)
      · exact hi.2
    · by_cases hj : j = G.next
      · exact .inr (by omega)
      · rw [Hp.add_get_ne hj] at hq; exact .inl (hG.dom j q hq)
    · by_cases hj : j = G.next
      · rw [hj, hGn, setLoc_self]; exact hgl
      · rw [Hp.add_get_ne hj] at hq
        rw [hag j (hG.dom j q hq)]
        exact Nat.lt_of_lt_of_le (hG.blk j q hq) hsz
    · by_cases hj : j = G.next
      · rw [hj, Hp.add_get_self, Option.some.injEq] at hq
        subst hq
        rw [hj, hGn, setLoc_self]
        exact ⟨h1s, (fun h => by cases h), fun _ => ⟨rfl, c, e, hg, hcn, hl, fun i v hv => by obtain ⟨v', h1, h2⟩ := hc i v hv; exact ⟨v', h1, hup h2⟩⟩⟩
      · rw [Hp.add_get_ne hj] at hq
        rw [hag j (hG.dom j q hq)]
        have hb := hne _ (hG.blk j q hq) (hfree j q hq)
        obtain ⟨k0, k1, k2⟩ := hG.ob j q hq
        refine ⟨k0, fun hr i v hv => ?_, fun hr => ?_⟩
        · obtain ⟨v', h1, h2⟩ := k1 hr i v hv
          exact ⟨v', by simp only [World.cell?] at h1 ⊢; rw [hb]; exact h1, hup h2⟩
        · obtain ⟨h0, c', e', h1, h2, h3, h4⟩ := k2 hr
          exact ⟨h0, c', e', by rw [hb]; exact h1, h2, h3, fun i v hv => by obtain ⟨v', h5, h6⟩ := h4 i v hv; exact ⟨v', h5, hup h6⟩⟩
    · by_cases hj : j = G.next
      · by_cases hj' : j' = G.next
        · omega
        · rw [Hp.add_get_ne hj'] at h2
          rw [hag j' (hG.dom j' q' h2), hj, hGn, setLoc_self]
          exact fun h => hfree j' q' h2 h.symm
      · rw [Hp.add_get_ne hj] at h1
        rw [hag j (hG.dom j q h1)]
        by_cases hj' : j' = G.next
        · rw [hj', hGn, setLoc_self]
          exact hfree j q h1
        · rw [Hp.add_get_ne hj'] at h2
          rw [hag j' (hG.dom j' q' h2)]
          exact hG.inj j j' q q' h1 h2 h3 h4
  · subst e
    rcases hnew with h | ⟨id0, o0, h1, h2, h3⟩
    · omega
    · exact hf id0 o0 h1 h2 h3
  · by_cases hj : j = G.next
    · rw [hj, Hp.add_get_self, Option.some.injEq] at h1; subst h1; cases h2
    · rw [Hp.add_get_ne hj] at h1
      obtain ⟨o', ho', hro⟩ := hGH j q h1
      exact ⟨o', ho', hro.trans h2⟩
  · by_cases hj : j = G.next
    · rw [hj, hGn, setLoc_self]
      exact hnew
    · rw [Hp.add_get_ne hj] at h1
      obtain ⟨o', ho', hro⟩ := hGH j q h1
      rw [hag j (hG.dom j q h1)]
      exact .inr ⟨j, o', ho', hro.trans h2, rfl⟩

/-- A new block for a new row. -/
theorem Ext.alloc (hH : RelH μ A H w) (k : Nat) {c : Array Value} {e : TypeId} {cs : List Value} (hl : cs.length ≤ c.size) (hc : ∀ (j : Nat) (v : Value), cs[j]? = some v → ∃ v', c[j]? = some v' ∧ RV μ A v v')
    (h1s : cs.all one1 = true) (hw : w' = { (w.alloc (.cells c e (0, 0))) with drawn := k }) : Ext μ A H w (setLoc μ H.next ⟨w.heap.size, 0, c.size⟩) (H.add ⟨cs, false⟩) w' := by
  subst hw
  refine Ext.new (e := e) hH hH rfl (fun id o h => ⟨o, h, rfl⟩) rfl rfl rfl (by show _ ≤ (w.heap.push _).size; rw [Array.size_push]; omega) ?_ (fun b hb _ => ?_) (.inl (Nat.le_refl _)) (fun id o h => Nat.ne_of_lt (hH.blk id o h)) rfl hl hc h1s
  · show (w.heap.push _)[w.heap.size]? = _
    rw [Array.getElem?_push, if_pos rfl]
  · show (w.heap.push _)[b]? = _
    rw [Array.getElem?_push, if_neg (by omega)]

def Out (μ : Nat → Loc) (A : Nat → Prop) (H : Hp) (w : World) (v : Value) (K : Hp) (v' : Value) (w' : World) : Prop :=
  ∃ ν, Ext μ A H w ν K w' ∧ RV ν (ext A H.next K.next) v v'
theorem Out.of_same (hH : RelH μ A H w) {v v' : Value} (h : RV μ A v v') : Out μ A H w v H v' w := ⟨μ, Ext.refl hH, by rw [ext_self]; exact h⟩
end
end Go.Proofs.Ytcofdkcccggmjaa.Am
