/- The reader of a code. -/
import Derived.Test.YtcofdkcccggmjaaN0
namespace Go.Proofs.Ytcofdkcccggmjaa.Am
open Go
set_option maxRecDepth 4000
set_option linter.unusedSimpArgs false

/-- A code: none, or bytes of a row that nobody writes. -/
structure Cd (H : Hp) (rid : Nat) (c : Value) (n : Nat) : Prop where
  sl : c = .slice none 0 0 ∧ n = 0 ∨ ∃ id, c = .slice (some ⟨id, 0, none⟩) n 0 ∧ id ≠ rid ∧ id < H.next ∧ (0 < n → ∃ o, H.get id = some o ∧ ∀ i, i < n → ∃ b : Int, o.cells[i]? = some (.int .u8 b) ∧ 0 ≤ b ∧ b ≤ 255)
  len : n ≤ 2000
/-- The heap with a reader's row. -/
def Rd (H : Hp) (rid : Nat) (c : Value) (p : Int) : Hp := H.set rid (some ⟨[c, .int .i64 p], false⟩)
theorem Rd_next (H : Hp) (rid : Nat) (c : Value) (p : Int) : (Rd H rid c p).next = H.next := rfl
theorem Rd_Rd (H : Hp) (rid : Nat) (c d : Value) (p q : Int) : Rd (Rd H rid c p) rid d q = Rd H rid d q := Hp.set_set _ _ _ _
theorem Hl_Rd {H : Hp} {rid : Nat} (h : rid < H.next) (c : Value) (p : Int) (l : List (Option Ob)) : Hl (Rd H rid c p) l = Rd (Hl H l) rid c p := (Hl_set_old H l rid _ h).symm
theorem ldA_Rd {H : Hp} {rid : Nat} {c : Value} {p : Int} {off : Nat} : ldA (Rd H rid c p) none rid off = [c, .int .i64 p][off]? := by
  simp [ldA, Rd, Hp.set_get_self]
theorem stV_Rd {H : Hp} {rid : Nat} {c : Value} {p q : Int} : stV (Rd H rid c p) 1 (.pointer (some ⟨rid, 1, none⟩)) (.int .i64 q) = some (.tuple #[], Rd H rid c q) := by
  simp [stV, Rd, Hp.set_get_self, Value.cells, one1, splice, Hp.set_set]
theorem ldV_Rd {H : Hp} {rid : Nat} {c : Value} {p : Int} {off : Nat} : ldV (Rd H rid c p) none (.pointer (some ⟨rid, off, none⟩)) = ([c, .int .i64 p][off]?).map fun v => (v, Rd H rid c p) := by
  simp only [ldV, ldA_Rd]

theorem pick0 (H : Hp) (rid : Nat) (p n : Int) (hp : 0 ≤ p) (hp2 : p ≤ 1000000) : K spec_l1Rd_pick [.pointer (some ⟨rid, 0, none⟩), .int .i64 n] (Rd H rid (.slice none 0 0) p) = some (.int .i64 0, Rd H rid (.slice none 0 0) (p + 1)) := by
  refine call_of_xq k_spec_l1Rd_pick g_spec_l1Rd_pick (Nat.le_of_ble_eq_true rfl) ?_
  have hw : IntKind.i64.wrap (p + 1) = p + 1 := wr (by omega) (by omega)
  by_cases h1 : n < 1 <;>
  simp -implicitDefEqProofs [c_spec_l1Rd_pick, xq, steps, step1, wanted, pop, hop_new, hop_box, hop_bsl, hop_mks, zeroes, hop_st, hop_ld, stV_new, ldV_new, hop_call, X.ev, put, upd_eq, init_eq, aar, aint, aeq, aint2, evs, optNat, asNat, asli, finish, resVals, resVal, oneVal, AO.o, AO.e, gc1, gc_sl, okRow, addO_some, flatV, comps, Value.cells, flatB, one1, ldL, stL, splice, dsq, dsq1, alo, Hl_addO, dsqAll, dsqEnd, Hl_next, Hl_add, Fr_t, far_t, far_n, allFar, chk, Option.join, chk1, chkL, Sm_t, Sr_t, Sm_Hl, Sr_Hl, cmpb, ldA_Hl, afill, partA, ltV, wr, ldV_Rd, stV_Rd, hw, h1]

theorem ldV_far {H : Hp} {rid id : Nat} {c : Value} {p : Int} {off : Nat} {o : Ob} (h : id ≠ rid) (ho : H.get id = some o) : ldV (Rd H rid c p) none (.pointer (some ⟨id, off, none⟩)) = (o.cells[off]?).map fun v => (v, Rd H rid c p) := by
  simp [ldV, ldA, Rd, Hp.set_get_ne h, ho]
theorem ldA_far {H : Hp} {rid id : Nat} {c : Value} {p : Int} {off : Nat} {o : Ob} (h : id ≠ rid) (ho : H.get id = some o) : ldA (Rd H rid c p) none id off = o.cells[off]? := by
  simp [ldA, Rd, Hp.set_get_ne h, ho]

theorem xor_le (x y : Int) (h1 : 0 ≤ x) (h2 : x < 9223372036854775808) (h3 : 0 ≤ y) (h4 : y < 9223372036854775808) :
    0 ≤ ((BitVec.ofInt IntKind.i64.bits x ^^^ BitVec.ofInt IntKind.i64.bits y).toNat : Int) ∧ ((BitVec.ofInt IntKind.i64.bits x ^^^ BitVec.ofInt IntKind.i64.bits y).toNat : Int) ≤ 9223372036854775807 := by
  refine ⟨Int.natCast_nonneg _, ?_⟩
  have e : (BitVec.ofInt IntKind.i64.bits x ^^^ BitVec.ofInt IntKind.i64.bits y).toNat = x.toNat ^^^ y.toNat := by
    rw [BitVec.toNat_xor, BitVec.toNat_ofInt, BitVec.toNat_ofInt]
    have hb : (IntKind.i64.bits : Nat) = 64 := rfl
    rw [hb]
    congr 1 <;> omega
  rw [e]
  have := Nat.xor_lt_two_pow (n := 63) (x := x.toNat) (y := y.toNat) (by omega) (by omega)
  omega

theorem pick1 (H : Hp) (rid cid m : Nat) (o : Ob) (p n : Int) (hp : 0 ≤ p) (hp2 : p ≤ 1000000) (hne : cid ≠ rid) (ho : H.get cid = some o) (hm : 0 < m) (hm2 : m ≤ 2000)
    (hb : ∀ i, i < m → ∃ b : Int, o.cells[i]? = some (.int .u8 b) ∧ 0 ≤ b ∧ b ≤ 255) (hn : 1 ≤ n) (hn2 : n ≤ 1000000000) :
    ∃ k, K spec_l1Rd_pick [.pointer (some ⟨rid, 0, none⟩), .int .i64 n] (Rd H rid (.slice (some ⟨cid, 0, none⟩) m 0) p) = some (.int .i64 k, Rd H rid (.slice (some ⟨cid, 0, none⟩) m 0) (p + 1)) ∧ 0 ≤ k ∧ k < n := by
  have hw : IntKind.i64.wrap (p + 1) = p + 1 := wr (by omega) (by omega)
  have hw2 : IntKind.i64.wrap (p + 1 - 1) = p := by rw [Int.add_sub_cancel]; exact wr (by omega) (by omega)
  have hw3 : IntKind.i64.wrap p = p := wr (by omega) (by omega)
  have h1 : ¬ n < 1 := by omega
  have hm0 : ((m : Int) == 0) = false := by simp; omega
  have hmz : ¬ (m = 0) := by omega
  have hnz : ¬ n = 0 := by omega
  by_cases hk : p < m
  · obtain ⟨b, hb1, hb2, hb3⟩ := hb p.toNat (by omega)
    have hpt : p.toNat < m := by omega
    refine ⟨b.tmod n, call_of_xq k_spec_l1Rd_pick g_spec_l1Rd_pick (Nat.le_of_ble_eq_true rfl) ?_, ?_, ?_⟩
    · have hwb : IntKind.i64.wrap b = b := wr (by omega) (by omega)
      simp -implicitDefEqProofs [c_spec_l1Rd_pick, xq, steps, step1, wanted, pop, hop_new, hop_box, hop_bsl, hop_mks, zeroes, hop_st, hop_ld, stV_new, ldV_new, hop_call, X.ev, put, upd_eq, init_eq, aar, aint, aeq, aint2, evs, optNat, asNat, asli, finish, resVals, resVal, oneVal, AO.o, AO.e, gc1, gc_sl, okRow, addO_some, flatV, comps, Value.cells, flatB, one1, ldL, stL, splice, dsq, dsq1, alo, Hl_addO, dsqAll, dsqEnd, Hl_next, Hl_add, Fr_t, far_t, far_n, allFar, chk, Option.join, chk1, chkL, Sm_t, Sr_t, Sm_Hl, Sr_Hl, cmpb, ldA_Hl, afill, partA, ltV, wr, ldV_Rd, stV_Rd, hw, hw2, hw3, h1, hm0, hk, hp, hpt, ldV_far hne ho, hb1, hwb, hnz]
    · exact Int.tmod_nonneg _ hb2
    · exact Int.tmod_lt_of_pos _ (by omega)
  · have h7 : IntKind.i64.wrap (p * 7) = p * 7 := wr (by omega) (by omega)
    have h73 : IntKind.i64.wrap (p * 7 + 3) = p * 7 + 3 := wr (by omega) (by omega)
    have hi1 : 0 ≤ p.tmod m := Int.tmod_nonneg _ hp
    have hi2 : p.tmod m < m := Int.tmod_lt_of_pos _ (by omega)
    have hj1 : 0 ≤ (p * 7 + 3).tmod m := Int.tmod_nonneg _ (by omega)
    have hj2 : (p * 7 + 3).tmod m < m := Int.tmod_lt_of_pos _ (by omega)
    generalize hi : p.tmod m = i at *
    generalize hj : (p * 7 + 3).tmod m = j at *
    obtain ⟨b, hb1, hb2, hb3⟩ := hb i.toNat (by omega)
    obtain ⟨d, hd1, hd2, hd3⟩ := hb j.toNat (by omega)
    have hit : i.toNat < m := by omega
    have hjt : j.toNat < m := by omega
    have hwb : IntKind.i64.wrap b = b := wr (by omega) (by omega)
    have hwd : IntKind.i64.wrap d = d := wr (by omega) (by omega)
    have e1 : IntKind.i64.wrap (b * 131) = b * 131 := wr (by omega) (by omega)
    have e2 : IntKind.i64.wrap (d * 1117) = d * 1117 := wr (by omega) (by omega)
    have e3 : IntKind.i64.wrap (b * 131 + d * 1117) = b * 131 + d * 1117 := wr (by omega) (by omega)
    have e4 : IntKind.i64.wrap (p * 29) = p * 29 := wr (by omega) (by omega)
    have e5 : IntKind.i64.wrap (b * 131 + d * 1117 + p * 29) = b * 131 + d * 1117 + p * 29 := wr (by omega) (by omega)
    have hq1 : 0 ≤ p.tdiv m := Int.tdiv_nonneg hp (by omega)
    have hq2 : p.tdiv m ≤ p := by
      rw [Int.tdiv_eq_ediv_of_nonneg hp]
      exact Int.ediv_le_self _ hp
    generalize hq : p.tdiv m = q at *
    have e6 : IntKind.i64.wrap q = q := wr (by omega) (by omega)
    have e7 : IntKind.i64.wrap (q * 53) = q * 53 := wr (by omega) (by omega)
    have e8 : IntKind.i64.wrap (b * 131 + d * 1117 + p * 29 + q * 53) = b * 131 + d * 1117 + p * 29 + q * 53 := wr (by omega) (by omega)
    have hx0 : 0 ≤ b * 131 + d * 1117 + p * 29 + q * 53 := by omega
    have hx1 : b * 131 + d * 1117 + p * 29 + q * 53 < 9223372036854775808 := by omega
    generalize hx : b * 131 + d * 1117 + p * 29 + q * 53 = x at *
    have hy0 : 0 ≤ x.tdiv 64 := Int.tdiv_nonneg hx0 (by omega)
    have hy1 : x.tdiv 64 ≤ x := by rw [Int.tdiv_eq_ediv_of_nonneg hx0]; omega
    generalize hy : x.tdiv 64 = y at *
    have e9 : IntKind.i64.wrap y = y := wr (by omega) (by omega)
    have hz := xor_le x y hx0 hx1 hy0 (by omega)
    generalize hzz : ((BitVec.ofInt IntKind.i64.bits x ^^^ BitVec.ofInt IntKind.i64.bits y).toNat : Int) = z at *
    have e10 : IntKind.i64.wrap z = z := wr (by omega) (by omega)
    refine ⟨z.tmod n, call_of_xq k_spec_l1Rd_pick g_spec_l1Rd_pick (Nat.le_of_ble_eq_true rfl) ?_, ?_, ?_⟩
    · simp -implicitDefEqProofs [c_spec_l1Rd_pick, xq, steps, step1, wanted, pop, hop_new, hop_box, hop_bsl, hop_mks, zeroes, hop_st, hop_ld, stV_new, ldV_new, hop_call, X.ev, put, upd_eq, init_eq, aar, aint, aeq, aint2, evs, optNat, asNat, asli, finish, resVals, resVal, oneVal, AO.o, AO.e, gc1, gc_sl, okRow, addO_some, flatV, comps, Value.cells, flatB, one1, ldL, stL, splice, dsq, dsq1, alo, Hl_addO, dsqAll, dsqEnd, Hl_next, Hl_add, Fr_t, far_t, far_n, allFar, chk, Option.join, chk1, chkL, Sm_t, Sr_t, Sm_Hl, Sr_Hl, cmpb, ldA_Hl, afill, partA, ltV, wr, ldV_Rd, ldA_Rd, stV_Rd, hw, hw2, hw3, h1, hm0, hmz, hk, hp, ldV_far hne ho, ldA_far hne ho, hnz, hi, hj, h7, h73, hi1, hj1, hit, hjt, hb1, hd1, hwb, hwd, e1, e2, e3, e4, e5, hq, e6, e7, e8, hx, hy, e9]
      simp at hzz
      rw [hzz, e10]
    · exact Int.tmod_nonneg _ hz.1
    · exact Int.tmod_lt_of_pos _ (by omega)

theorem pick_spec {H : Hp} {rid : Nat} {c : Value} {m : Nat} (hc : Cd H rid c m) {p n : Int} (hp : 0 ≤ p) (hp2 : p ≤ 1000000) (hn : 1 ≤ n) (hn2 : n ≤ 1000000000) :
    ∃ k, K spec_l1Rd_pick [.pointer (some ⟨rid, 0, none⟩), .int .i64 n] (Rd H rid c p) = some (.int .i64 k, Rd H rid c (p + 1)) ∧ 0 ≤ k ∧ k < n := by
  rcases hc.sl with ⟨rfl, rfl⟩ | ⟨id, rfl, h1, _, h2⟩
  · exact ⟨0, pick0 H rid p n hp hp2, Int.le_refl _, by omega⟩
  · by_cases hm : m = 0
    · subst hm
      refine ⟨0, ?_, Int.le_refl _, by omega⟩
      refine call_of_xq k_spec_l1Rd_pick g_spec_l1Rd_pick (Nat.le_of_ble_eq_true rfl) ?_
      have hw : IntKind.i64.wrap (p + 1) = p + 1 := wr (by omega) (by omega)
      have h1 : ¬ n < 1 := by omega
      simp -implicitDefEqProofs [c_spec_l1Rd_pick, xq, steps, step1, wanted, pop, hop_new, hop_box, hop_bsl, hop_mks, zeroes, hop_st, hop_ld, stV_new, ldV_new, hop_call, X.ev, put, upd_eq, init_eq, aar, aint, aeq, aint2, evs, optNat, asNat, asli, finish, resVals, resVal, oneVal, AO.o, AO.e, gc1, gc_sl, okRow, addO_some, flatV, comps, Value.cells, flatB, one1, ldL, stL, splice, dsq, dsq1, alo, Hl_addO, dsqAll, dsqEnd, Hl_next, Hl_add, Fr_t, far_t, far_n, allFar, chk, Option.join, chk1, chkL, Sm_t, Sr_t, Sm_Hl, Sr_Hl, cmpb, ldA_Hl, afill, partA, ltV, wr, ldV_Rd, stV_Rd, hw, h1]
    · obtain ⟨o, h3, h5⟩ := h2 (by omega)
      exact pick1 H rid id m o p n hp hp2 h1 h3 (by omega) hc.len h5 hn hn2

theorem one_spec {H : Hp} {rid : Nat} {c : Value} {m : Nat} (hc : Cd H rid c m) {p : Int} (hp : 0 ≤ p) (hp2 : p ≤ 1000000) {lid n q : Nat} {o : Ob} (hl : lid ≠ rid) (ho : H.get lid = some o) (hn : o.cells.length = n) (hn1 : 1 ≤ n) (hn2 : n ≤ 1000) :
    ∃ k v, k < n ∧ o.cells[k]? = some v ∧ K spec_l1Rd_one [.pointer (some ⟨rid, 0, none⟩), .slice (some ⟨lid, 0, none⟩) n q] (Rd H rid c p) = some (v, Rd H rid c (p + 1)) := by
  obtain ⟨k, hk, hk0, hk1⟩ := pick_spec hc (n := n) hp hp2 (by omega) (by omega)
  have hkn : k.toNat < n := by omega
  refine ⟨k.toNat, o.cells[k.toNat]'(by omega), hkn, List.getElem?_eq_getElem _, ?_⟩
  refine call_of_xq k_spec_l1Rd_one g_spec_l1Rd_one (Nat.le_of_ble_eq_true rfl) ?_
  have hg : o.cells[k.toNat]? = some (o.cells[k.toNat]'(by omega)) := List.getElem?_eq_getElem _
  generalize o.cells[k.toNat]'(by omega) = v at *
  simp -implicitDefEqProofs [c_spec_l1Rd_one, xq, steps, step1, wanted, pop, hop_new, hop_box, hop_bsl, hop_mks, zeroes, hop_st, hop_ld, stV_new, ldV_new, hop_call, X.ev, put, upd_eq, init_eq, aar, aint, aeq, aint2, evs, optNat, asNat, asli, finish, resVals, resVal, oneVal, AO.o, AO.e, gc1, gc_sl, okRow, addO_some, flatV, comps, Value.cells, flatB, one1, ldL, stL, splice, dsq, dsq1, alo, Hl_addO, dsqAll, dsqEnd, Hl_next, Hl_add, Fr_t, far_t, far_n, allFar, chk, Option.join, chk1, chkL, Sm_t, Sr_t, Sm_Hl, Sr_Hl, cmpb, ldA_Hl, afill, partA, ltV, wr, hk, hk0, hkn, ldV_far hl ho, hg]
end Go.Proofs.Ytcofdkcccggmjaa.Am
