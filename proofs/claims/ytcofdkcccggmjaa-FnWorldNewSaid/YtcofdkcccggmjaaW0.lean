/- FnWorldNew: what it computes. -/
import Derived.Test.YtcofdkcccggmjaaR1
namespace Go.Proofs.Ytcofdkcccggmjaa.Am
open Go
set_option maxRecDepth 4000
set_option linter.unusedSimpArgs false

theorem n_World0 (p : Int) (H : Hp) (h : p < 0 ∨ 2560 < p) : K impl_WorldNew [.int .i64 p] H = some (.agg #[.int .i64 0, .int .i64 0, nl, nl], H) := by
  refine start k_impl_WorldNew g_impl_WorldNew (Nat.le_of_ble_eq_true rfl) ?_
  have e : (decide (0 ≤ p) && decide (p ≤ 2560)) = false := by simp; omega
  simp -implicitDefEqProofs [c_impl_WorldNew, xq, steps, step1, wanted, pop, hop_new, hop_box, hop_bsl, hop_mks, zeroes, hop_st, hop_ld, stV_new, ldV_new, hop_call, X.ev, put, upd_eq, init_eq, aar, aint, aeq, aint2, evs, optNat, asNat, asli, finish, resVals, resVal, oneVal, AO.o, AO.e, gc1, gc_sl, okRow, addO_some, flatV, comps, Value.cells, flatB, one1, ldL, stL, splice, dsq, dsq1, alo, Hl_addO, dsqAll, dsqEnd, Hl_next, Hl_add, Fr_t, far_t, far_n, allFar, chk, Option.join, chk1, chkL, Sm_t, Sr_t, Sm_Hl, Sr_Hl, cmpb, ldA_Hl, afill, partA, ltV, wr, k_in, e, z_World]
theorem n_sWorld0 (p : Int) (H : Hp) (h : p < 0 ∨ 2560 < p) : K spec_WorldNew [.int .i64 p] H = some (.agg #[.int .i64 0, .int .i64 0, nl, nl], H) := by
  refine start k_spec_WorldNew g_spec_WorldNew (Nat.le_of_ble_eq_true rfl) ?_
  have e : (decide (0 ≤ p) && decide (p ≤ 2560)) = false := by simp; omega
  simp -implicitDefEqProofs [c_spec_WorldNew, xq, steps, step1, wanted, pop, hop_new, hop_box, hop_bsl, hop_mks, zeroes, hop_st, hop_ld, stV_new, ldV_new, hop_call, X.ev, put, upd_eq, init_eq, aar, aint, aeq, aint2, evs, optNat, asNat, asli, finish, resVals, resVal, oneVal, AO.o, AO.e, gc1, gc_sl, okRow, addO_some, flatV, comps, Value.cells, flatB, one1, ldL, stL, splice, dsq, dsq1, alo, Hl_addO, dsqAll, dsqEnd, Hl_next, Hl_add, Fr_t, far_t, far_n, allFar, chk, Option.join, chk1, chkL, Sm_t, Sr_t, Sm_Hl, Sr_Hl, cmpb, ldA_Hl, afill, partA, ltV, wr, k_sin, e, z_World]

theorem law_WorldNew {H : Hp} {c : Value} {n : Nat} (hc : Cd0 H c n) : K laws_FnWorldNew [c] H = some (.bool true, H) := by
  obtain ⟨p, hp, hd⟩ := draw_pull hc
  rw [← Hl_nil H] at hd
  have main : ∀ q : Int, 0 ≤ q → q ≤ 2560 → (∀ H, K impl_WorldNew [.int .i64 p] H = some (.agg #[.int .i64 0, .int .i64 q, nl, nl], H)) → (∀ H, K spec_WorldNew [.int .i64 p] H = some (.agg #[.int .i64 0, .int .i64 q, nl, nl], H)) →
      (0 ≤ p → p ≤ 2560 → q = p) → K laws_FnWorldNew [c] H = some (.bool true, H) := by
    intro q h1 h2 hw hs hq
    refine start k_laws_FnWorldNew g_laws_FnWorldNew (Nat.le_of_ble_eq_true rfl) ?_
    have hl : (∃ i, c = .slice i n 0) := by
      rcases hc with ⟨rfl, rfl⟩ | ⟨id, rfl, _⟩
      · exact ⟨none, rfl⟩
      · exact ⟨_, rfl⟩
    obtain ⟨i, rfl⟩ := hl
    by_cases hn : (1048576 : Int) < n
    · simp -implicitDefEqProofs [c_laws_FnWorldNew, xq, steps, step1, wanted, pop, hop_new, hop_box, hop_bsl, hop_mks, zeroes, hop_st, hop_ld, stV_new, ldV_new, hop_call, X.ev, put, upd_eq, init_eq, aar, aint, aeq, aint2, evs, optNat, asNat, asli, finish, resVals, resVal, oneVal, AO.o, AO.e, gc1, gc_sl, okRow, addO_some, flatV, comps, Value.cells, flatB, one1, ldL, stL, splice, dsq, dsq1, alo, Hl_addO, dsqAll, dsqEnd, Hl_next, Hl_add, Fr_t, far_t, far_n, allFar, chk, Option.join, chk1, chkL, Sm_t, Sr_t, Sm_Hl, Sr_Hl, cmpb, ldA_Hl, afill, partA, ltV, wr, hn]
    · by_cases h3 : p < 0
      · simp -implicitDefEqProofs [c_laws_FnWorldNew, xq, steps, step1, wanted, pop, hop_new, hop_box, hop_bsl, hop_mks, zeroes, hop_st, hop_ld, stV_new, ldV_new, hop_call, X.ev, put, upd_eq, init_eq, aar, aint, aeq, aint2, evs, optNat, asNat, asli, finish, resVals, resVal, oneVal, AO.o, AO.e, gc1, gc_sl, okRow, addO_some, flatV, comps, Value.cells, flatB, one1, ldL, stL, splice, dsq, dsq1, alo, Hl_addO, dsqAll, dsqEnd, Hl_next, Hl_add, Fr_t, far_t, far_n, allFar, chk, Option.join, chk1, chkL, Sm_t, Sr_t, Sm_Hl, Sr_Hl, cmpb, ldA_Hl, afill, partA, ltV, wr, hn, hd, hw, hs, z_World, n_WorldStep, n_WorldOk, n_pqW, h1, h2, h3]
      · by_cases h4 : 2560 < p
        · simp -implicitDefEqProofs [c_laws_FnWorldNew, xq, steps, step1, wanted, pop, hop_new, hop_box, hop_bsl, hop_mks, zeroes, hop_st, hop_ld, stV_new, ldV_new, hop_call, X.ev, put, upd_eq, init_eq, aar, aint, aeq, aint2, evs, optNat, asNat, asli, finish, resVals, resVal, oneVal, AO.o, AO.e, gc1, gc_sl, okRow, addO_some, flatV, comps, Value.cells, flatB, one1, ldL, stL, splice, dsq, dsq1, alo, Hl_addO, dsqAll, dsqEnd, Hl_next, Hl_add, Fr_t, far_t, far_n, allFar, chk, Option.join, chk1, chkL, Sm_t, Sr_t, Sm_Hl, Sr_Hl, cmpb, ldA_Hl, afill, partA, ltV, wr, hn, hd, hw, hs, z_World, n_WorldStep, n_WorldOk, n_pqW, h1, h2, h3, h4]
        · have hq := hq (by omega) (by omega)
          subst hq
          simp -implicitDefEqProofs [c_laws_FnWorldNew, xq, steps, step1, wanted, pop, hop_new, hop_box, hop_bsl, hop_mks, zeroes, hop_st, hop_ld, stV_new, ldV_new, hop_call, X.ev, put, upd_eq, init_eq, aar, aint, aeq, aint2, evs, optNat, asNat, asli, finish, resVals, resVal, oneVal, AO.o, AO.e, gc1, gc_sl, okRow, addO_some, flatV, comps, Value.cells, flatB, one1, ldL, stL, splice, dsq, dsq1, alo, Hl_addO, dsqAll, dsqEnd, Hl_next, Hl_add, Fr_t, far_t, far_n, allFar, chk, Option.join, chk1, chkL, Sm_t, Sr_t, Sm_Hl, Sr_Hl, cmpb, ldA_Hl, afill, partA, ltV, wr, hn, hd, hw, hs, z_World, n_WorldStep, n_WorldOk, n_pqW, h1, h2, h3, h4]
  rcases hp with rfl | rfl | rfl | rfl | rfl
  · exact main 0 (by omega) (by omega) (fun H => n_World 0 H (by omega) (by omega)) (fun H => n_sWorld 0 H (by omega) (by omega)) (by omega)
  · exact main 32 (by omega) (by omega) (fun H => n_World 32 H (by omega) (by omega)) (fun H => n_sWorld 32 H (by omega) (by omega)) (by omega)
  · exact main 2560 (by omega) (by omega) (fun H => n_World 2560 H (by omega) (by omega)) (fun H => n_sWorld 2560 H (by omega) (by omega)) (by omega)
  · exact main 0 (by omega) (by omega) (fun H => n_World0 _ H (by omega)) (fun H => n_sWorld0 _ H (by omega)) (by omega)
  · exact main 0 (by omega) (by omega) (fun H => n_World0 _ H (by omega)) (fun H => n_sWorld0 _ H (by omega)) (by omega)
end Go.Proofs.Ytcofdkcccggmjaa.Am
