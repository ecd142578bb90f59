/- A region whose order is open: the invariant that every order keeps. -/
import Derived.Test.YtcofdkcccggmjaaA7
namespace Go.Proofs.Ytcofdkcccggmjaa.Am
open Go

theorem exists_max {p : Nat → Prop} : ∀ {n : Nat}, (∃ j, j < n ∧ p j) → ∃ j, j < n ∧ p j ∧ ∀ k, k < n → p k → k ≤ j
  | 0, ⟨j, h, _⟩ => by omega
  | n + 1, h => by
    by_cases hn : p n
    · exact ⟨n, by omega, hn, fun k hk _ => by omega⟩
    · obtain ⟨j, hj, hp⟩ := h
      have hjn : j < n := by
        rcases Nat.lt_or_ge j n with h | h
        · exact h
        · have : j = n := by omega
          subst this; exact absurd hp hn
      obtain ⟨m, hm, hpm, hmax⟩ := exists_max (n := n) ⟨j, hjn, hp⟩
      refine ⟨m, by omega, hpm, fun k hk hpk => ?_⟩
      rcases Nat.lt_or_ge k n with h | h
      · exact hmax k h hpk
      · have : k = n := by omega
        subst this; exact absurd hpk hn

def hit (_n0 : Nat) (r : DR) (id : Nat) : Prop := (r.lo ≤ id ∧ id < r.hi) ∨ r.wr id

section
variable {n0 : Nat} {rs : List DR}
theorem fold_none (id : Nat) : ∀ {l : List Nat} {g : Nat → Option Ob}, (∀ j ∈ l, ∀ r, rs[j]? = some r → ¬ hit n0 r id) →
    (l.foldl (fun g j => match rs[j]? with | some r => mrg n0 g r | none => g) g) id = g id
  | [], _, _ => rfl
  | j :: t, g, h => by
    simp only [List.foldl_cons]
    rw [fold_none id fun k hk => h k (List.mem_cons_of_mem _ hk)]
    cases hr : rs[j]? with
    | none => rfl
    | some r =>
      have := h j List.mem_cons_self r hr
      exact if_neg this
theorem fold_some {id j : Nat} {r : DR} (hr : rs[j]? = some r) (hh : hit n0 r id) : ∀ {l : List Nat} {g : Nat → Option Ob}, l.Pairwise (· < ·) → j ∈ l → (∀ k ∈ l, j < k → ∀ r, rs[k]? = some r → ¬ hit n0 r id) →
    (l.foldl (fun g j => match rs[j]? with | some r => mrg n0 g r | none => g) g) id = r.get id
  | [], _, _, h, _ => by cases h
  | a :: t, g, hp, hj, h => by
    simp only [List.foldl_cons]
    rw [List.pairwise_cons] at hp
    rcases List.mem_cons.1 hj with hja | hjt
    · subst hja
      rw [fold_none id fun k hk => h k (List.mem_cons_of_mem _ hk) (hp.1 k hk), hr]
      exact if_pos hh
    · exact fold_some hr hh hp.2 hjt fun k hk => h k (List.mem_cons_of_mem _ hk)
end

/-- What is at hand in a region whose order is open. -/
structure Reg (P : Program) (cf : CF) (N : Nat) (ops : Array Oper) where
  os : List AO
  bs : List (List Nat)
  n0 : Nat
  g0 : Nat → Option Ob
  t0 : Nat → Value
  μ0 : Nat → Loc
  A0 : Nat → Prop
  w0 : World
  hcf : SoundC P cf
  hos : mapO (aoOf P N ops) ops.toList = some os
  hb : BefOk ops bs
  hap : apartOk os bs = true
  p : Plan P cf os bs n0 g0 t0
  h0 : RelH μ0 A0 ⟨n0, g0⟩ w0

section
variable {P : Program} {cf : CF} {N : Nat} {ops : Array Oper} (R : Reg P cf N ops)

theorem mapO_at {α β : Type} {f : α → Option β} : ∀ {l : List α} {m : List β}, mapO f l = some m → l.length = m.length ∧ ∀ (i : Nat) a b, l[i]? = some a → m[i]? = some b → f a = some b
  | [], m, h => by simp only [mapO, Option.some.injEq] at h; subst h; exact ⟨rfl, fun i a b h => by simp at h⟩
  | x :: r, m, h => by
    obtain ⟨b, bs, hb, hbs, rfl⟩ := mapO_cons h
    obtain ⟨h1, h2⟩ := mapO_at hbs
    refine ⟨by simp [h1], fun i a b' ha hb' => ?_⟩
    cases i with
    | zero => simp at ha hb'; subst ha; subst hb'; exact hb
    | succ i => exact h2 i a b' (by simpa using ha) (by simpa using hb')

namespace Reg
def n : Nat := R.os.length
def rs : List DR := (List.range R.os.length).map R.p.r
def bf (i : Nat) : List Nat := R.bs.getD i []
def nx : Nat → Nat := R.p.nx
theorem n_size : R.n = ops.size := by have := (mapO_at R.hos).1; simpa [n] using this.symm
theorem rs_at {j : Nat} (h : j < R.n) : R.rs[j]? = some (R.p.r j) := by
  unfold n at h
  simp [rs, List.getElem?_map, List.getElem?_range h]
theorem ao_at {i : Nat} {o : Oper} (h : ops[i]? = some o) : ∃ ao, R.os[i]? = some ao ∧ aoOf P N ops o = some ao := by
  have hi : i < R.os.length := by have h1 := (Array.getElem?_eq_some_iff.1 h).1; have := R.n_size; unfold n at this; omega
  exact ⟨_, List.getElem?_eq_getElem hi, (mapO_at R.hos).2 i o _ (by simpa using h) (List.getElem?_eq_getElem hi)⟩

theorem nx_step {i : Nat} (h : i < R.n) : R.nx i ≤ R.nx (i + 1) ∧ (R.p.r i).lo = R.nx i ∧ (R.p.r i).hi = R.nx (i + 1) := by
  have hi : R.os[i]? = some (R.os[i]'h) := List.getElem?_eq_getElem h
  rcases R.p.done i _ hi with ⟨_, _, h3, h4⟩ | ⟨_, _, h3, h4⟩ | ⟨_, ⟨_, _, _, _, _, _, _, h3⟩, h4⟩ | ⟨_, q, K, _, h2, h3, h4⟩
  · rw [h3]; exact ⟨Nat.le_of_eq h4.symm, rfl, h4.symm⟩
  · rw [h3]; exact ⟨Nat.le_of_eq h4.symm, rfl, h4.symm⟩
  · rw [h3]; exact ⟨Nat.le_of_eq h4.symm, rfl, h4.symm⟩
  · rw [h3]
    have := hop_le R.hcf.le h2
    exact ⟨by unfold nx; rw [h4]; exact this, rfl, h4.symm⟩
theorem nx_le {i j : Nat} (h : i ≤ j) (hj : j ≤ R.n) : R.nx i ≤ R.nx j := by
  induction h with
  | refl => exact Nat.le_refl _
  | step h ih => exact Nat.le_trans (ih (by omega)) (R.nx_step (by omega)).1
theorem nx_base : R.nx 0 = R.n0 := R.p.nx_0
theorem n0_le {i : Nat} (h : i ≤ R.n) : R.n0 ≤ R.nx i := by rw [← R.nx_base]; exact R.nx_le (Nat.zero_le _) h
def rng (j id : Nat) : Prop := R.nx j ≤ id ∧ id < R.nx (j + 1)
theorem rng_uniq {j k id : Nat} (hj : j < R.n) (hk : k < R.n) (h : R.rng j id) (h' : R.rng k id) : j = k := by
  rcases Nat.lt_trichotomy j k with hl | hl | hl
  · have := R.nx_le (show j + 1 ≤ k by omega) (by omega); unfold rng at h h'; omega
  · exact hl
  · have := R.nx_le (show k + 1 ≤ j by omega) (by omega); unfold rng at h h'; omega
theorem rng_ge {j id : Nat} (hj : j < R.n) (h : R.rng j id) : R.n0 ≤ id := Nat.le_trans (R.n0_le (by omega)) h.1
theorem hit_iff {j id : Nat} (hj : j < R.n) : hit R.n0 (R.p.r j) id ↔ R.rng j id ∨ (R.p.r j).wr id := by
  unfold hit rng
  rw [(R.nx_step hj).2.1, (R.nx_step hj).2.2]
/-- Who changed a row stands in one order with who looks at it. -/
theorem cmp_at {k i : Nat} (hk : k < R.n) (hi : i < R.n) (hne : i ≠ k) {id : Nat} (hw : (R.p.r k).wr id) (hl : (R.p.r i).lk = some none ∨ (R.p.r i).lk = some (some id)) : i ∈ R.bf k ∨ k ∈ R.bf i := by
  by_cases h1 : i ∈ R.bf k
  · exact .inl h1
  by_cases h2 : k ∈ R.bf i
  · exact .inr h2
  exfalso
  have := R.p.ok k i _ _ (R.rs_at hk) (R.rs_at hi) (fun e => hne e.symm) h2 h1 id hw
  rcases hl with h | h
  · rw [h] at this; exact this
  · rw [h] at this; exact this rfl
theorem apart_at {i j d : Nat} (hi : i < R.n) (hj : j < R.n) (hne : j ≠ i) {oi oj : AO} (hoi : R.os[i]? = some oi) (hoj : R.os[j]? = some oj) (hd : oj.d = some d) (hu : d ∈ oi.us ∨ oi.d = some d) :
    (j < i ∧ j ∈ R.bf i) ∨ (i < j ∧ i ∈ R.bf j) := by
  have h1 := R.hap
  unfold apartOk at h1
  have h2 := List.all_eq_true.1 (List.all_eq_true.1 h1 i (List.mem_range.2 hi)) j (List.mem_range.2 hj)
  simp only [Bool.or_eq_true, beq_iff_eq, hoi, hoj, hd] at h2
  rcases h2 with h2 | h2 | h2
  · exact absurd h2 hne
  · exfalso
    simp only [Bool.not_eq_true', Bool.or_eq_false_iff, beq_eq_false_iff_ne] at h2
    rcases hu with hu | hu
    · have h3 := h2.1; rw [List.contains_iff_mem.2 hu] at h3; cases h3
    · exact h2.2 hu
  · split at h2
    · rename_i hlt; exact .inl ⟨hlt, List.contains_iff_mem.1 h2⟩
    · rename_i hlt; exact .inr ⟨by omega, List.contains_iff_mem.1 h2⟩

def L (_ : Reg P cf N ops) (listed : Array Bool) (i : Nat) : Prop := listed.getD i false = true
def LL (listed : Array Bool) : List Nat := (List.range R.n).filter fun j => listed.getD j false
noncomputable def G (listed : Array Bool) : Nat → Option Ob := heapAt R.n0 R.g0 R.rs (R.LL listed)
theorem mem_LL {listed : Array Bool} {j : Nat} : j ∈ R.LL listed ↔ j < R.n ∧ R.L listed j := by simp [LL, L]
theorem G_none {listed : Array Bool} {id : Nat} (h : ∀ j, j < R.n → R.L listed j → ¬ hit R.n0 (R.p.r j) id) : R.G listed id = R.g0 id := by
  unfold G heapAt
  refine fold_none id fun j hj r hr => ?_
  obtain ⟨h1, h2⟩ := R.mem_LL.1 hj
  rw [R.rs_at h1] at hr
  injection hr with hr
  subst hr
  exact h j h1 h2
theorem G_some {listed : Array Bool} {id j : Nat} (hj : j < R.n) (hL : R.L listed j) (hh : hit R.n0 (R.p.r j) id) (h : ∀ k, k < R.n → R.L listed k → hit R.n0 (R.p.r k) id → k ≤ j) : R.G listed id = (R.p.r j).get id := by
  unfold G heapAt
  refine fold_some (R.rs_at hj) hh (List.Pairwise.filter _ List.pairwise_lt_range) (R.mem_LL.2 ⟨hj, hL⟩) fun k hk hjk r hr hhit => ?_
  obtain ⟨h1, h2⟩ := R.mem_LL.1 hk
  rw [R.rs_at h1] at hr
  injection hr with hr
  subst hr
  have := h k h1 h2 hhit
  omega
noncomputable def B (i : Nat) : Nat → Option Ob := heapAt R.n0 R.g0 R.rs (R.bf i)
theorem bf_lt {i j : Nat} (h : j ∈ R.bf i) : j < i := R.hb.lt i j h
theorem B_none {i id : Nat} (hi : i < R.n) (h : ∀ j, j ∈ R.bf i → ¬ hit R.n0 (R.p.r j) id) : R.B i id = R.g0 id := by
  unfold B heapAt
  refine fold_none id fun j hj r hr => ?_
  rw [R.rs_at (by have := R.bf_lt hj; omega)] at hr
  injection hr with hr
  subst hr
  exact h j hj
theorem B_some {i id j : Nat} (hi : i < R.n) (hj : j ∈ R.bf i) (hh : hit R.n0 (R.p.r j) id) (h : ∀ k, k ∈ R.bf i → hit R.n0 (R.p.r k) id → k ≤ j) : R.B i id = (R.p.r j).get id := by
  unfold B heapAt
  refine fold_some (R.rs_at (by have := R.bf_lt hj; omega)) hh (R.hb.srt i) hj fun k hk hjk r hr hhit => ?_
  rw [R.rs_at (by have := R.bf_lt hk; omega)] at hr
  injection hr with hr
  subst hr
  have := h k hk hhit
  omega

def Ain (i : Nat) : Nat → Prop := fun id => R.A0 id ∨ ∃ k, k ∈ R.bf i ∧ R.rng k id
def Aout (i : Nat) : Nat → Prop := fun id => R.A0 id ∨ ∃ k, (k = i ∨ k ∈ R.bf i) ∧ R.rng k id
def AS (listed : Array Bool) : Nat → Prop := fun id => R.A0 id ∨ ∃ k, k < R.n ∧ R.L listed k ∧ R.rng k id
theorem ext_Ain (i : Nat) : ext (R.Ain i) (R.nx i) (R.nx (i + 1)) = R.Aout i := by
  funext id
  simp only [ext, Ain, Aout, eq_iff_iff]
  constructor
  · rintro ((h | ⟨k, h1, h2⟩) | h)
    · exact .inl h
    · exact .inr ⟨k, .inr h1, h2⟩
    · exact .inr ⟨i, .inl rfl, h⟩
  · rintro (h | ⟨k, rfl | h1, h2⟩)
    · exact .inl (.inl h)
    · exact .inr h2
    · exact .inl (.inr ⟨k, h1, h2⟩)
theorem Aout_Ain {i j : Nat} (h : j ∈ R.bf i) {id : Nat} (hA : R.Aout j id) : R.Ain i id := by
  rcases hA with h1 | ⟨k, rfl | h1, h2⟩
  · exact .inl h1
  · exact .inr ⟨k, h, h2⟩
  · exact .inr ⟨k, R.hb.trans i j k h h1, h2⟩

/-- The temporaries in the text's order. -/
theorem tt_last (R : Reg P cf N ops) (x : Nat) : ∀ i, i ≤ R.n → (∃ j ao, j < i ∧ R.os[j]? = some ao ∧ ao.d = some x ∧ (∀ k ak, k < i → R.os[k]? = some ak → ak.d = some x → k ≤ j) ∧ R.p.tt i x = R.p.v j) ∨
    ((∀ k ak, k < i → R.os[k]? = some ak → ak.d ≠ some x) ∧ R.p.tt i x = R.t0 x)
  | 0, _ => .inr ⟨fun k ak h => by omega, by rw [R.p.t_0]⟩
  | i + 1, hi => by
    have hlt : i < R.os.length := hi
    have hao : R.os[i]? = some (R.os[i]'hlt) := List.getElem?_eq_getElem hlt
    have hts := R.p.t_s i _ hao
    by_cases hd : (R.os[i]'hlt).d = some x
    · refine .inl ⟨i, _, by omega, hao, hd, fun k ak hk _ _ => by omega, ?_⟩
      rw [hts, hd]
      simp [put, upd]
    · have hx : R.p.tt (i + 1) x = R.p.tt i x := by
        rw [hts]
        cases hdd : (R.os[i]'hlt).d with
        | none => rfl
        | some d =>
          have : x ≠ d := fun e => hd (by rw [hdd, e])
          simp [put, upd, this]
      rw [hx]
      rcases tt_last R x i (by omega) with ⟨j, ao, h1, h2, h3, h4, h5⟩ | ⟨h1, h2⟩
      · refine .inl ⟨j, ao, by omega, h2, h3, fun k ak hk hak hkd => ?_, h5⟩
        rcases Nat.lt_or_ge k i with h | h
        · exact h4 k ak h hak hkd
        · have : k = i := by omega
          subst this
          rw [hao] at hak
          injection hak with hak
          subst hak
          exact absurd hkd hd
      · refine .inr ⟨fun k ak hk hak hkd => ?_, h2⟩
        rcases Nat.lt_or_ge k i with h | h
        · exact h1 k ak h hak hkd
        · have : k = i := by omega
          subst this
          rw [hao] at hak
          injection hak with hak
          subst hak
          exact hd hkd
end Reg
end
end Go.Proofs.Ytcofdkcccggmjaa.Am
