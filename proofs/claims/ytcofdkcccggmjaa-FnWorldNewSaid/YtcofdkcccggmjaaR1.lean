/- A reader of a code; the draw of a pull. -/
import Derived.Test.YtcofdkcccggmjaaR0
namespace Go.Proofs.Ytcofdkcccggmjaa.Am
open Go
set_option maxRecDepth 4000
set_option linter.unusedSimpArgs false

/-- A code of whatever length. -/
def Cd0 (H : Hp) (c : Value) (n : Nat) : Prop :=
  c = .slice none 0 0 ∧ n = 0 ∨ ∃ id, c = .slice (some ⟨id, 0, none⟩) n 0 ∧ id < H.next ∧ (0 < n → ∃ o, H.get id = some o ∧ ∀ i, i < n → ∃ b : Int, o.cells[i]? = some (.int .u8 b) ∧ 0 ≤ b ∧ b ≤ 255)

theorem add_Hl1 (H : Hp) (o : Ob) : H.add o = Hl H [some o] := by
  have := Hl_add H [] o
  rwa [Hl_nil] at this
theorem open_spec {H : Hp} {c : Value} {n : Nat} (hc : Cd0 H c n) : ∃ c' m, K spec_l1Open [c] H = some (.pointer (some ⟨H.next, 0, none⟩), H.add ⟨[c', .int .i64 0], false⟩) ∧ m ≤ n ∧ ∀ l, Cd (Hl H l) (ad H 0) c' m := by
  have key : ∀ {c' : Value} {m : Nat}, Cd0 H c' m → m ≤ 2000 → ∀ l, Cd (Hl H l) (ad H 0) c' m := by
    intro c' m h hm l
    refine ⟨?_, hm⟩
    rcases h with h | ⟨id, h1, h2, h3⟩
    · exact .inl h
    · refine .inr ⟨id, h1, by simp only [ad]; omega, by simp only [Hl]; omega, ?_⟩
      rw [Hl_old h2]; exact h3
  by_cases h : n ≤ 2000
  · refine ⟨c, n, ?_, Nat.le_refl _, key hc h⟩
    rw [← ad_zero H, add_Hl1]
    refine start k_spec_l1Open g_spec_l1Open (Nat.le_of_ble_eq_true rfl) ?_
    have h2 : ¬ (2000 : Int) < n := by omega
    rcases hc with ⟨rfl, rfl⟩ | ⟨id, rfl, _⟩
    · simp -implicitDefEqProofs [c_spec_l1Open, xq, steps, step1, wanted, pop, hop_new, hop_box, hop_bsl, hop_mks, zeroes, hop_st, hop_ld, stV_new, ldV_new, hop_call, X.ev, put, upd_eq, init_eq, aar, aint, aeq, aint2, evs, optNat, asNat, asli, finish, resVals, resVal, oneVal, AO.o, AO.e, gc1, gc_sl, okRow, addO_some, flatV, comps, Value.cells, flatB, one1, ldL, stL, splice, dsq, dsq1, alo, Hl_addO, dsqAll, dsqEnd, Hl_next, Hl_add, Fr_t, far_t, far_n, allFar, chk, Option.join, chk1, chkL, Sm_t, Sr_t, Sm_Hl, Sr_Hl, cmpb, ldA_Hl, afill, partA, ltV, wr, z_l1Rd]
    · simp -implicitDefEqProofs [c_spec_l1Open, xq, steps, step1, wanted, pop, hop_new, hop_box, hop_bsl, hop_mks, zeroes, hop_st, hop_ld, stV_new, ldV_new, hop_call, X.ev, put, upd_eq, init_eq, aar, aint, aeq, aint2, evs, optNat, asNat, asli, finish, resVals, resVal, oneVal, AO.o, AO.e, gc1, gc_sl, okRow, addO_some, flatV, comps, Value.cells, flatB, one1, ldL, stL, splice, dsq, dsq1, alo, Hl_addO, dsqAll, dsqEnd, Hl_next, Hl_add, Fr_t, far_t, far_n, allFar, chk, Option.join, chk1, chkL, Sm_t, Sr_t, Sm_Hl, Sr_Hl, cmpb, ldA_Hl, afill, partA, ltV, wr, z_l1Rd, h2]
  · rcases hc with ⟨rfl, rfl⟩ | ⟨id, rfl, h2, h3⟩
    · omega
    · refine ⟨.slice (some ⟨id, 0, none⟩) 2000 0, 2000, ?_, by omega, key (.inr ⟨id, rfl, h2, fun _ => by
        obtain ⟨o, h4, h5⟩ := h3 (by omega)
        exact ⟨o, h4, fun i hi => h5 i (by omega)⟩⟩) (Nat.le_refl _)⟩
      rw [← ad_zero H, add_Hl1]
      refine start k_spec_l1Open g_spec_l1Open (Nat.le_of_ble_eq_true rfl) ?_
      have h2 : (2000 : Int) < n := by omega
      have h6 : 2000 ≤ n := by omega
      simp -implicitDefEqProofs [c_spec_l1Open, xq, steps, step1, wanted, pop, hop_new, hop_box, hop_bsl, hop_mks, zeroes, hop_st, hop_ld, stV_new, ldV_new, hop_call, X.ev, put, upd_eq, init_eq, aar, aint, aeq, aint2, evs, optNat, asNat, asli, finish, resVals, resVal, oneVal, AO.o, AO.e, gc1, gc_sl, okRow, addO_some, flatV, comps, Value.cells, flatB, one1, ldL, stL, splice, dsq, dsq1, alo, Hl_addO, dsqAll, dsqEnd, Hl_next, Hl_add, Fr_t, far_t, far_n, allFar, chk, Option.join, chk1, chkL, Sm_t, Sr_t, Sm_Hl, Sr_Hl, cmpb, ldA_Hl, afill, partA, ltV, wr, z_l1Rd, h2, h6]
theorem Rd_Hl (H : Hp) (x : Option Ob) (l : List (Option Ob)) (c : Value) (p : Int) : Rd (Hl H (x :: l)) (ad H 0) c p = Hl H (some ⟨[c, .int .i64 p], false⟩ :: l) :=
  Hl_set H (x :: l) 0 _ (by simp)

theorem draw_pull {H : Hp} {c : Value} {n : Nat} (hc : Cd0 H c n) : ∃ p : Int, (p = 0 ∨ p = 32 ∨ p = 2560 ∨ p = 2561 ∨ p = -1) ∧ K spec_DrawWorldNew [c] H = some (.int .i64 p, H) := by
  obtain ⟨c', m, h1, _, h2⟩ := open_spec hc
  obtain ⟨k, v, hk, hv, h3⟩ := one_spec (h2 [some ⟨[c', .int .i64 0], false⟩, some ⟨[.int .i64 0, .int .i64 32, .int .i64 2560, .int .i64 2561, .int .i64 (-1)], false⟩]) (p := 0) (q := 3) (by omega) (by omega) (lid := ad H 1) (n := 5) (by simp [ad]) (Hl_at (i := 1) rfl) rfl (by omega) (by omega)
  rw [Rd_Hl, Rd_Hl] at h3
  have hp : ∃ p : Int, v = .int .i64 p ∧ (p = 0 ∨ p = 32 ∨ p = 2560 ∨ p = 2561 ∨ p = -1) := by
    have : k = 0 ∨ k = 1 ∨ k = 2 ∨ k = 3 ∨ k = 4 := by omega
    rcases this with rfl | rfl | rfl | rfl | rfl <;> simp at hv <;> subst hv <;> exact ⟨_, rfl, by simp⟩
  obtain ⟨p, rfl, hp⟩ := hp
  refine ⟨p, hp, ?_⟩
  rw [← ad_zero H, add_Hl1] at h1
  rw [← Hl_nil H] at h1
  refine start k_spec_DrawWorldNew g_spec_DrawWorldNew (Nat.le_of_ble_eq_true rfl) ?_
  rw [Hl_nil] at h1
  have h1' : call Pr Tb spec_l1Open [c] (Hl H []) = some (.pointer (some ⟨ad H 0, 0, none⟩), Hl H [some ⟨[c', .int .i64 0], false⟩]) := by rw [Hl_nil]; exact h1
  simp -implicitDefEqProofs [c_spec_DrawWorldNew, xq, steps, step1, wanted, pop, hop_new, hop_box, hop_bsl, hop_mks, zeroes, hop_st, hop_ld, stV_new, ldV_new, hop_call, X.ev, put, upd_eq, init_eq, aar, aint, aeq, aint2, evs, optNat, asNat, asli, finish, resVals, resVal, oneVal, AO.o, AO.e, gc1, gc_sl, okRow, addO_some, flatV, comps, Value.cells, flatB, one1, ldL, stL, splice, dsq, dsq1, alo, Hl_addO, dsqAll, dsqEnd, Hl_next, Hl_add, Fr_t, far_t, far_n, allFar, chk, Option.join, chk1, chkL, Sm_t, Sr_t, Sm_Hl, Sr_Hl, cmpb, ldA_Hl, afill, partA, ltV, wr, h1', z_int, h3]
end Go.Proofs.Ytcofdkcccggmjaa.Am
