/- From what a law's function computes to what its row asks. -/
import Derived.Test.YtcofdkcccggmjaaR1
import Derived.Below
namespace Go.Proofs.Ytcofdkcccggmjaa.Am
open Go

theorem walk_of {f : FuncId} (hm : Pr.follows .mixedOrders = true) (h : ∀ (H : Hp) (c : Value) (n : Nat), Cd0 H c n → K f [c] H = some (.bool true, H)) (a : Option Addr) (len cap : Nat) (zs : List Int) (w : World)
    (hw : (a = none ∧ len = 0 ∧ cap = 0 ∧ zs = []) ∨ ∃ x, a = some x ∧ len ≤ cap ∧ cap ≤ maxLen ∧ zs.length = cap ∧ (∀ i, i < zs.length → w.cell? (x.add i) = some (.int .u8 (zs.getD i 0))) ∧ ∀ n ∈ zs, (Lit.int .u8 n).wf = true) :
    Calls Pr f #[.slice a len cap] w fun e w' => e = .returned (.bool true) ∧ RowKit.Below w.heap.size w w' := by
  have fin : ∀ {μ : Nat → Loc} {A : Nat → Prop} {H : Hp} {c : Value}, Cd0 H c len → RL μ A [c] [.slice a len cap] → RelH μ A H w → (∀ id o, H.get id = some o → o.ro = true) →
      Calls Pr f #[.slice a len cap] w fun e w' => e = .returned (.bool true) ∧ RowKit.Below w.heap.size w w' := by
    intro μ A H c hc hl hr hro
    refine (call_sound hm (h H c len hc) μ A w _ hl hr).mono ?_
    rintro e w' ⟨v', rfl, ν, hE, hv⟩
    cases hv with
    | bool => exact ⟨rfl, ⟨hE.os, hE.tape, hE.output, hE.size, fun b hb => hE.frame b hb fun id o h1 h2 => by rw [hro id o h1] at h2; cases h2⟩⟩
  rcases hw with ⟨rfl, rfl, rfl, _⟩ | ⟨x, rfl, hl, _, hz, hcell, hwf⟩
  · refine fin (μ := fun _ => ⟨0, 0, 0⟩) (A := fun _ => False) (H := ⟨0, fun _ => none⟩) (c := .slice none 0 0) (.inl ⟨rfl, rfl⟩) ⟨rfl, fun i v w h1 h2 => ?_⟩ ⟨fun _ h => h.elim, (fun _ _ h => nomatch h), (fun _ _ h => nomatch h), (fun _ _ h => nomatch h), (fun _ _ _ _ h => nomatch h)⟩ (fun _ _ h => nomatch h)
    cases i with
    | zero => simp at h1 h2; subst h1; subst h2; exact .nilSl
    | succ i => simp at h1
  · by_cases hc0 : cap = 0
    · have hl0 : len = 0 := by omega
      subst hc0; subst hl0
      refine fin (μ := fun _ => ⟨0, 0, 0⟩) (A := fun i => i = 0) (H := ⟨1, fun _ => none⟩) (c := .slice (some ⟨0, 0, none⟩) 0 0) (.inr ⟨0, rfl, Nat.one_pos, fun h => absurd h (by omega)⟩) ⟨rfl, fun i v w h1 h2 => ?_⟩ ⟨fun _ h => by simp only at h ⊢; omega, (fun _ _ h => nomatch h), (fun _ _ h => nomatch h), (fun _ _ h => nomatch h), (fun _ _ _ _ h => nomatch h)⟩ (fun _ _ h => nomatch h)
      cases i with
      | zero => simp at h1 h2; subst h1; subst h2; exact .slZ 0 0 0 x rfl (by omega)
      | succ i => simp at h1
    · have h0 := hcell 0 (by omega)
      have hx : x.spot = none ∧ x.block < w.heap.size := by
        simp only [Addr.add, if_true] at h0
        unfold World.cell? at h0
        split at h0
        · rename_i c _ _ hb
          split at h0
          · cases h0
          · rename_i hs
            refine ⟨?_, (Array.getElem?_eq_some_iff.1 hb).1⟩
            cases hsp : x.spot with
            | none => rfl
            | some _ => rw [hsp] at hs; simp at hs
        · cases h0
      have hadd : ∀ i, x.add i = ⟨x.block, x.off + i, none⟩ := by
        intro i
        unfold Addr.add
        split
        · rename_i hi
          subst hi
          cases x
          simp only at hx
          rw [hx.1]; rfl
        · rfl
      let o : Ob := ⟨zs.map (.int .u8), true⟩
      refine fin (μ := fun _ => ⟨x.block, x.off, 0⟩) (A := fun i => i = 0) (H := ⟨1, fun i => if i = 0 then some o else none⟩) (c := .slice (some ⟨0, 0, none⟩) len 0) (.inr ⟨0, rfl, Nat.one_pos, fun h => ⟨o, rfl, fun i hi => ?_⟩⟩) ⟨rfl, fun i v w h1 h2 => ?_⟩ ⟨fun _ h => by simp only at h ⊢; omega, fun i o' h => ?_, fun i o' h => hx.2, fun i o' h => ?_, fun i i' o1 o2 h1 h2 h3 h4 => ?_⟩ (fun i o' h => ?_)
      · have hi2 : i < zs.length := by omega
        refine ⟨zs[i], by simp [o, hi2], ?_⟩
        have := hwf _ (List.getElem_mem hi2)
        simp [Lit.wf] at this
        have e1 : IntKind.u8.min = 0 := rfl
        have e2 : IntKind.u8.max = 255 := rfl
        rw [e1, e2] at this
        exact this
      · cases i with
        | zero =>
          simp at h1 h2; subst h1; subst h2
          have := RV.slAny (μ := fun _ => ⟨x.block, x.off, 0⟩) (A := fun i => i = 0) 0 0 len cap rfl hl
          simp only [Nat.add_zero] at this
          have e : x = ⟨x.block, x.off, none⟩ := by rw [← hx.1]
          rw [e]
          exact this
        | succ i => simp at h1
      · simp only at h; split at h
        · assumption
        · cases h
      · simp only at h; split at h
        · injection h with h
          subst h
          refine ⟨by simp [o, one1], fun _ j v hj => ?_, fun hr => by cases hr⟩
          simp only [o, List.getElem?_map, Option.map_eq_some_iff] at hj
          obtain ⟨z, hz1, rfl⟩ := hj
          have hjl := (List.getElem?_eq_some_iff.1 hz1).1
          refine ⟨.int .u8 z, ?_, .int _ _⟩
          rw [← hadd, hcell j hjl, List.getD_eq_getElem?_getD, hz1]; rfl
        · cases h
      · simp only at h1 h2
        split at h1
        · split at h2
          · omega
          · cases h2
        · cases h1
      · simp only at h; split at h
        · injection h with h; subst h; rfl
        · cases h
end Go.Proofs.Ytcofdkcccggmjaa.Am
