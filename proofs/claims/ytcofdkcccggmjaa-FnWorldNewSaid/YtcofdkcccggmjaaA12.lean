/- The abstract machine is sound: code, loops, calls. -/
import Derived.Test.YtcofdkcccggmjaaA11
namespace Go.Proofs.Ytcofdkcccggmjaa.Am
open Go

def exitOf : Ex → Exit
  | .nm => .normal
  | .ex i => .exit i
  | .rt => .ret

/-- A loop whose rounds are counted down. -/
theorem wp_loop_fuel {P : Program} {c : Code} {Q : Exit → Act → World → Prop} {a : Act} {w : World} (J : Nat → Act → World → Prop) {m : Nat} (h0 : J m a w)
    (round : ∀ m a w, J m a w → c.wp P (Exit.then (fun a' w' => ∃ k, k < m ∧ J k a' w') Q) a w) : (Code.loop c).wp P Q a w := by
  have least : ∀ a w, ∃ m, (∃ k, J k a w) → (J m a w ∧ ∀ k, J k a w → m ≤ k) := by
    intro a w
    by_cases h : ∃ k, J k a w
    · obtain ⟨k, hk⟩ := h
      have : ∀ n k, k ≤ n → J k a w → ∃ m, J m a w ∧ ∀ j, J j a w → m ≤ j := by
        intro n
        induction n with
        | zero => intro k hk hJ; have : k = 0 := by omega
                  subst this; exact ⟨0, hJ, fun _ _ => Nat.zero_le _⟩
        | succ n ih =>
          intro k hk hJ
          by_cases h : ∃ j, j < k ∧ J j a w
          · obtain ⟨j, hj, hJj⟩ := h
            exact ih j (by omega) hJj
          · exact ⟨k, hJ, fun j hJj => by
              rcases Nat.lt_or_ge j k with h1 | h1
              · exact absurd ⟨j, h1, hJj⟩ h
              · exact h1⟩
      obtain ⟨m, h1, h2⟩ := this k k (Nat.le_refl _) hk
      exact ⟨m, fun _ => ⟨h1, h2⟩⟩
    · exact ⟨0, fun h2 => absurd h2 h⟩
  have ⟨f, hf⟩ : ∃ f : Act → World → Nat, ∀ a w, (∃ k, J k a w) → (J (f a w) a w ∧ ∀ k, J k a w → f a w ≤ k) :=
    ⟨fun a w => Classical.choose (least a w), fun a w => Classical.choose_spec (least a w)⟩
  refine wp_loop (fun a w => ∃ k, J k a w) f ⟨m, h0⟩ fun a w hI => ?_
  obtain ⟨h1, h2⟩ := hf a w hI
  refine Code.wp_mono (fun e a' w' hq => ?_) (round _ a w h1)
  cases e with
  | normal =>
    obtain ⟨k, hk, hJ⟩ := hq
    exact ⟨⟨k, hJ⟩, Nat.lt_of_le_of_lt ((hf a' w' ⟨k, hJ⟩).2 k hJ) hk⟩
  | _ => exact hq

section
variable {P : Program} {F : FuncId → Option AFn}

theorem steps_le {cf : CF} (hcf : ∀ f as H v K, cf f as H = some (v, K) → H.next ≤ K.next) : ∀ {os : List AO} {s s' : St}, steps P cf os s = some s' → s.H.next ≤ s'.H.next
  | [], s, s', h => by simp only [steps, Option.some.injEq] at h; subst h; exact Nat.le_refl _
  | o :: r, s, s', h => by
    simp only [steps, Option.bind_eq_some_iff] at h
    obtain ⟨s1, h1, h2⟩ := h
    refine Nat.le_trans ?_ (steps_le hcf h2)
    rcases step1_cases h1 with ⟨_, rfl⟩ | ⟨_, v, K, hv, rfl⟩
    · exact Nat.le_refl _
    · cases ho : o.op with
      | p p =>
        rw [ho] at hv
        simp only [aopRun, Option.map_eq_some_iff, Prod.mk.injEq] at hv
        obtain ⟨_, _, _, rfl⟩ := hv
        exact Nat.le_refl _
      | h q => rw [ho] at hv; exact hop_le hcf hv
theorem draws_le {cf : CF} (hcf : ∀ f as H v K, cf f as H = some (v, K) → H.next ≤ K.next) {n0 : Nat} {g0 : Nat → Option Ob} : ∀ {os : List DO} {s s' : DS}, draws P cf n0 g0 os s = some s' → s.nx ≤ s'.nx
  | [], s, s', h => by simp only [draws, Option.some.injEq] at h; subst h; exact Nat.le_refl _
  | o :: r, s, s', h => by
    simp only [draws, Option.bind_eq_some_iff] at h
    obtain ⟨s1, h1, h2⟩ := h
    refine Nat.le_trans ?_ (draws_le hcf h2)
    unfold draw1 at h1
    split at h1
    · cases h1
    · injection h1 with h1; subst h1; exact Nat.le_refl _
    · split at h1
      · simp only [Option.map_eq_some_iff] at h1; obtain ⟨_, _, rfl⟩ := h1; exact Nat.le_refl _
      · split at h1
        · simp only [Option.map_eq_some_iff] at h1; obtain ⟨_, _, rfl⟩ := h1; exact Nat.le_refl _
        · cases h1
      · simp only [Option.map_eq_some_iff] at h1
        obtain ⟨⟨v, K⟩, hv, h1⟩ := h1
        subst h1; exact hop_le hcf hv
theorem exec_le {cf : CF} {ag : AG} (hcf : ∀ f as H v K, cf f as H = some (v, K) → H.next ≤ K.next) (hag : ∀ b s e s', ag b s = some (e, s') → s.H.next ≤ s'.H.next) :
    ∀ {c : AC} {s : St} {e : Ex} {s' : St}, exec P cf ag c s = some (e, s') → s.H.next ≤ s'.H.next
  | .nop, s, e, s', h => by simp only [exec, Option.some.injEq, Prod.mk.injEq] at h; rw [← h.2]; exact Nat.le_refl _
  | .reg ops, s, e, s', h => by
    simp only [exec, Option.map_eq_some_iff, Prod.mk.injEq] at h
    obtain ⟨x, hx, _, rfl⟩ := h
    exact steps_le hcf hx
  | .draw ops, s, e, s', h => by
    simp only [exec, Option.bind_eq_some_iff] at h
    obtain ⟨x, hx, h⟩ := h
    split at h
    · injection h with h
      injection h with _ h
      subst h
      exact draws_le hcf hx
    · cases h
  | .seq a b, s, e, s', h => by
    simp only [exec] at h
    cases ha : exec P cf ag a s with
    | none => rw [ha] at h; cases h
    | some r =>
      obtain ⟨e1, s1⟩ := r
      rw [ha] at h
      have h1 := exec_le hcf hag ha
      cases e1 with
      | nm => exact Nat.le_trans h1 (exec_le hcf hag h)
      | _ => simp only [Option.some.injEq, Prod.mk.injEq] at h; rw [← h.2]; exact h1
  | .ite c a b, s, e, s', h => by
    simp only [exec] at h
    split at h
    · rename_i q _
      cases q
      · exact exec_le hcf hag h
      · exact exec_le hcf hag h
    · cases h
  | .blk id b, s, e, s', h => by
    simp only [exec] at h
    cases ha : exec P cf ag b s with
    | none => rw [ha] at h; cases h
    | some r =>
      obtain ⟨e1, s1⟩ := r
      rw [ha] at h
      have h1 := exec_le hcf hag ha
      cases e1 with
      | ex i => simp only at h; split at h <;> (simp only [Option.some.injEq, Prod.mk.injEq] at h; rw [← h.2]; exact h1)
      | _ => simp only [Option.some.injEq, Prod.mk.injEq] at h; rw [← h.2]; exact h1
  | .loop b, s, e, s', h => by
    simp only [exec] at h
    cases ha : exec P cf ag b s with
    | none => rw [ha] at h; cases h
    | some r =>
      obtain ⟨e1, s1⟩ := r
      rw [ha] at h
      have h1 := exec_le hcf hag ha
      cases e1 with
      | nm => exact Nat.le_trans h1 (hag _ _ _ _ h)
      | _ => simp only [Option.some.injEq, Prod.mk.injEq] at h; rw [← h.2]; exact h1
  | .exit id, s, e, s', h => by simp only [exec, Option.some.injEq, Prod.mk.injEq] at h; rw [← h.2]; exact Nat.le_refl _
  | .ret, s, e, s', h => by simp only [exec, Option.some.injEq, Prod.mk.injEq] at h; rw [← h.2]; exact Nat.le_refl _
theorem gc_le {H K L : Hp} {v v' : Value} (h : gcRet H v K = some (v', L)) : H.next ≤ L.next := by
  unfold gcRet at h
  split at h
  · simp only [Option.map_eq_some_iff, Prod.mk.injEq] at h
    obtain ⟨os, _, _, rfl⟩ := h
    rw [addAll_next]; omega
  · cases h
theorem finish_cases {a : AFn} {H : Hp} {r : Option (Ex × St)} {v : Value} {K : Hp} (h : finish a H r = some (v, K)) :
    ∃ e s vs, r = some (e, s) ∧ (e = .nm ∨ e = .rt) ∧ resVals s a.res = some vs ∧ (if a.gc = true then gcRet H (oneVal vs) s.H else some (oneVal vs, s.H)) = some (v, K) := by
  unfold finish at h
  split at h
  · simp only [Option.bind_eq_some_iff] at h
    obtain ⟨vs, hvs, h⟩ := h
    refine ⟨_, _, vs, rfl, .inl rfl, hvs, ?_⟩
    cases hg : a.gc <;> rw [hg] at h <;> simpa using h
  · simp only [Option.bind_eq_some_iff] at h
    obtain ⟨vs, hvs, h⟩ := h
    refine ⟨_, _, vs, rfl, .inr rfl, hvs, ?_⟩
    cases hg : a.gc <;> rw [hg] at h <;> simpa using h
  · cases h
theorem ev_next_le (n : Nat) : (∀ f as H v K, (ev P F n).1 f as H = some (v, K) → H.next ≤ K.next) ∧ (∀ b s e s', (ev P F n).2 b s = some (e, s') → s.H.next ≤ s'.H.next) := by
  induction n with
  | zero => exact ⟨(fun f as H v K h => by cases h), (fun b s e s' h => by cases h)⟩
  | succ n ih =>
    refine ⟨fun f as H v K h => ?_, fun b s e s' h => exec_le ih.1 ih.2 (c := .loop b) h⟩
    simp only [ev, body] at h
    split at h
    · cases h
    · split at h
      · obtain ⟨e, s, vs, hr, _, _, hfin⟩ := finish_cases h
        have := exec_le ih.1 ih.2 hr
        split at hfin
        · exact gc_le hfin
        · simp only [Option.some.injEq, Prod.mk.injEq] at hfin; rw [← hfin.2]; exact this
      · cases h
end

section
variable {P : Program} {gcs : FuncId → Bool} {N : Nat}

/-- Code comes to what the abstract machine comes to. -/
theorem exec_sound (hm : P.follows .mixedOrders = true) {n : Nat} (hcf : ∀ m, m ≤ n → SoundC P (ev P (table P gcs) m).1) :
    ∀ (c : Code) (ac : AC), codeOf P N c = some ac → ∀ (m : Nat), m ≤ n → ∀ {Q : Exit → Act → World → Prop} {μ : Nat → Loc} {A : Nat → Prop} {a : Act} {w : World} {s s' : St} {e : Ex},
      exec P (ev P (table P gcs) m).1 (ev P (table P gcs) m).2 ac s = some (e, s') → a.defers = [] → RT μ A N s.t a → RelH μ A s.H w → (∀ a' w', After μ A N s.H w s' a' w' → Q (exitOf e) a' w') → c.wp P Q a w := by
  intro c
  induction c with
  | skip =>
    intro ac hc m hmn Q μ A a w s s' e h hd hT hH hQ
    simp only [codeOf, Option.some.injEq] at hc
    subst hc
    simp only [exec, Option.some.injEq, Prod.mk.injEq] at h
    obtain ⟨rfl, rfl⟩ := h
    exact wp_skip (hQ a w (After.refl hd hT hH))
  | region id ops draw =>
    intro ac hc m hmn Q μ A a w s s' e h hd hT hH hQ
    cases draw with
    | false =>
      simp only [codeOf, Option.map_eq_some_iff] at hc
      obtain ⟨os, hos, rfl⟩ := hc
      simp only [exec, Option.map_eq_some_iff, Prod.mk.injEq] at h
      obtain ⟨x, hx, rfl, rfl⟩ := h
      exact wp_region_list (steps_wp (hcf m hmn) hos hx hd hT hH hQ)
    | true =>
      simp only [codeOf] at hc
      split at hc
      · rename_i os bs hos hbs
        split at hc
        · rename_i hap
          injection hc with hc
          subst hc
          simp only [exec, Option.bind_eq_some_iff] at h
          obtain ⟨x, hx, h⟩ := h
          split at h
          · rename_i hok
            injection h with h
            injection h with he hs'
            subst he; subst hs'
            exact draw_wp hm (hcf m hmn) hos hbs hap hx hok hd hT hH hQ
          · cases h
        · cases hc
      · cases hc
  | seq x y ihx ihy =>
    intro ac hc m hmn Q μ A a w s s' e h hd hT hH hQ
    simp only [codeOf] at hc
    split at hc
    · rename_i ax ay hx hy
      injection hc with hc
      subst hc
      simp only [exec] at h
      cases ha : exec P (ev P (table P gcs) m).1 (ev P (table P gcs) m).2 ax s with
      | none => rw [ha] at h; cases h
      | some r =>
        obtain ⟨e1, s1⟩ := r
        rw [ha] at h
        refine wp_seq (ihx ax hx m hmn ha hd hT hH fun a1 w1 hA1 => ?_)
        cases e1 with
        | nm =>
          obtain ⟨hd1, ν, hE1, hT1⟩ := hA1
          refine ihy ay hy m hmn h hd1 hT1 hE1.rel ?_
          rintro a2 w2 ⟨hd2, ξ, hE2, hT2⟩
          exact hQ a2 w2 ⟨hd2, ξ, hE1.trans hE2, by rw [← ext_ext A hE1.le hE2.le]; exact hT2⟩
        | ex i => simp only [Option.some.injEq, Prod.mk.injEq] at h; obtain ⟨rfl, rfl⟩ := h; exact hQ a1 w1 hA1
        | rt => simp only [Option.some.injEq, Prod.mk.injEq] at h; obtain ⟨rfl, rfl⟩ := h; exact hQ a1 w1 hA1
    · cases hc
  | cond c x y ihx ihy =>
    intro ac hc m hmn Q μ A a w s s' e h hd hT hH hQ
    simp only [codeOf] at hc
    split at hc
    · rename_i ca ax ay hca hx hy
      injection hc with hc
      subst hc
      simp only [exec] at h
      split at h
      · rename_i q hq
        have hr := xOf_rv hT hca
        rw [hq] at hr
        refine wp_cond hr.bool_inv ?_
        cases q with
        | true => exact ihx ax hx m hmn h hd hT hH hQ
        | false => exact ihy ay hy m hmn h hd hT hH hQ
      · cases h
    · cases hc
  | block id b ih =>
    intro ac hc m hmn Q μ A a w s s' e h hd hT hH hQ
    simp only [codeOf, Option.map_eq_some_iff] at hc
    obtain ⟨ab, hb, rfl⟩ := hc
    simp only [exec] at h
    cases ha : exec P (ev P (table P gcs) m).1 (ev P (table P gcs) m).2 ab s with
    | none => rw [ha] at h; cases h
    | some r =>
      obtain ⟨e1, s1⟩ := r
      rw [ha] at h
      refine wp_block (ih ab hb m hmn ha hd hT hH fun a1 w1 hA1 => ?_)
      cases e1 with
      | nm => simp only [Option.some.injEq, Prod.mk.injEq] at h; obtain ⟨rfl, rfl⟩ := h; exact hQ a1 w1 hA1
      | rt => simp only [Option.some.injEq, Prod.mk.injEq] at h; obtain ⟨rfl, rfl⟩ := h; exact hQ a1 w1 hA1
      | ex i =>
        simp only at h
        by_cases hi : i = id
        · rw [if_pos hi] at h
          simp only [Option.some.injEq, Prod.mk.injEq] at h; obtain ⟨rfl, rfl⟩ := h
          simp only [exitOf, Exit.inBlock, if_pos hi]
          exact hQ a1 w1 hA1
        · rw [if_neg hi] at h
          simp only [Option.some.injEq, Prod.mk.injEq] at h; obtain ⟨rfl, rfl⟩ := h
          simp only [exitOf, Exit.inBlock, if_neg hi]
          exact hQ a1 w1 hA1
  | loop b ih =>
    intro ac hc m hmn Q μ A a w s s' e h hd hT hH hQ
    simp only [codeOf, Option.map_eq_some_iff] at hc
    obtain ⟨ab, hb, rfl⟩ := hc
    refine wp_loop_fuel (fun k a w => k ≤ m + 1 ∧ ∃ (μ : Nat → Loc) (A : Nat → Prop) (s : St), (ev P (table P gcs) k).2 ab s = some (e, s') ∧ a.defers = [] ∧ RT μ A N s.t a ∧ RelH μ A s.H w ∧ ∀ a' w', After μ A N s.H w s' a' w' → Q (exitOf e) a' w') (m := m + 1)
      ⟨Nat.le_refl _, μ, A, s, h, hd, hT, hH, hQ⟩ ?_
    rintro k a w ⟨hk, μ, A, s, h, hd, hT, hH, hQ⟩
    cases k with
    | zero => cases h
    | succ k =>
      have h : exec P (ev P (table P gcs) k).1 (ev P (table P gcs) k).2 (.loop ab) s = some (e, s') := h
      simp only [exec] at h
      cases ha : exec P (ev P (table P gcs) k).1 (ev P (table P gcs) k).2 ab s with
      | none => rw [ha] at h; cases h
      | some r =>
        obtain ⟨e1, s1⟩ := r
        rw [ha] at h
        refine ih ab hb k (by omega) ha hd hT hH fun a1 w1 hA1 => ?_
        cases e1 with
        | nm =>
          obtain ⟨hd1, ν, hE1, hT1⟩ := hA1
          refine ⟨k, by omega, by omega, ν, _, s1, h, hd1, hT1, hE1.rel, ?_⟩
          rintro a2 w2 ⟨hd2, ξ, hE2, hT2⟩
          exact hQ a2 w2 ⟨hd2, ξ, hE1.trans hE2, by rw [← ext_ext A hE1.le hE2.le]; exact hT2⟩
        | ex i => simp only [Option.some.injEq, Prod.mk.injEq] at h; obtain ⟨rfl, rfl⟩ := h; exact hQ a1 w1 hA1
        | rt => simp only [Option.some.injEq, Prod.mk.injEq] at h; obtain ⟨rfl, rfl⟩ := h; exact hQ a1 w1 hA1
  | exit id =>
    intro ac hc m hmn Q μ A a w s s' e h hd hT hH hQ
    simp only [codeOf, Option.some.injEq] at hc
    subst hc
    simp only [exec, Option.some.injEq, Prod.mk.injEq] at h
    obtain ⟨rfl, rfl⟩ := h
    exact wp_exit (hQ a w (After.refl hd hT hH))
  | ret =>
    intro ac hc m hmn Q μ A a w s s' e h hd hT hH hQ
    simp only [codeOf, Option.some.injEq] at hc
    subst hc
    simp only [exec, Option.some.injEq, Prod.mk.injEq] at h
    obtain ⟨rfl, rfl⟩ := h
    exact wp_ret (hQ a w (After.refl hd hT hH))
  | _ => intro ac hc; simp only [codeOf] at hc; cases hc

def resF (tmps : Array Value) : ResultVar → Sem Value
  | .tmp t => pure (tmps.getD t Go.undef)
  | .cell b t => do loadVar t (← asAddr (tmps.getD b Go.undef))

theorem resVals_sound {μ : Nat → Loc} {A : Nat → Prop} {s : St} {a : Act} {w : World} (hT : RT μ A N s.t a) (hH : RelH μ A s.H w) : ∀ {l : List ResultVar} {rs : List Rs} {vs : List Value}, mapO (resOf P N) l = some rs → resVals s rs = some vs →
    ∃ ws, (l.mapM (resF a.tmps)).run P w = .ok ws w ∧ RL μ A vs ws
  | [], rs, vs, h, hv => by
    simp only [mapO, Option.some.injEq] at h
    subst h
    simp only [resVals, Option.some.injEq] at hv
    subst hv
    exact ⟨[], rfl, RL.nil⟩
  | r :: l, rs, vs, h, hv => by
    obtain ⟨x, xs, hx, hxs, rfl⟩ := mapO_cons h
    simp only [resVals, Option.bind_eq_some_iff, Option.map_eq_some_iff] at hv
    obtain ⟨v, hv1, us, hus, rfl⟩ := hv
    obtain ⟨ws, hws, hrl⟩ := resVals_sound hT hH hxs hus
    have key : ∃ w1, (resF a.tmps r).run P w = .ok w1 w ∧ RV μ A v w1 := by
      cases r with
      | tmp t =>
        simp only [resOf] at hx
        split at hx
        · injection hx with hx
          subst hx
          simp only [resVal, Option.some.injEq] at hv1
          subst hv1
          exact ⟨_, rfl, hT.at_ t⟩
        · cases hx
      | cell b t =>
        simp only [resOf] at hx
        split at hx
        · rename_i n hn
          split at hx
          · injection hx with hx
            subst hx
            simp only [resVal] at hv1
            split at hv1
            · rename_i id off hq
              have hr := hT.at_ b
              rw [hq] at hr
              generalize hz : a.tmps.getD b Go.undef = z at hr
              cases hr with
              | ptr _ _ hA =>
                obtain ⟨v', h1, h2⟩ := ld_run hn hH hv1
                exact ⟨v', by simp only [resF, hz, asAddr, Sem.run_bind, Sem.run_pure, Result.andThen_ok, h1], h2⟩
            · cases hv1
          · cases hx
        · cases hx
    obtain ⟨w1, hw1, hr1⟩ := key
    refine ⟨w1 :: ws, ?_, RL.cons hr1 hrl⟩
    simp only [List.mapM_cons, Sem.run_bind, hw1, Result.andThen_ok, hws, Sem.run_pure]

theorem ev_sound (hm : P.follows .mixedOrders = true) : ∀ n, SoundC P (ev P (table P gcs) n).1 := by
  intro n
  induction n using Nat.strongRecOn with
  | _ n ih =>
    cases n with
    | zero => exact ⟨(fun f as H r h => by cases h), (fun f as H v K h => by cases h), (fun f as H v K h => by cases h)⟩
    | succ n =>
      have inv : ∀ {f as H r}, (ev P (table P gcs) (n + 1)).1 f as H = some r → ∃ fn c b rs, P.funcs[f]? = some fn ∧ (fn.name == "runtime.NumGoroutine") = false ∧ fn.body = some c ∧ codeOf P fn.ntmps c = some b ∧ mapO (resOf P fn.ntmps) fn.results.toList = some rs ∧
          as.length ≤ fn.ntmps ∧ finish ⟨fn.ntmps, rs, gcs f, b⟩ H (exec P (ev P (table P gcs) n).1 (ev P (table P gcs) n).2 b ⟨init as, H⟩) = some r := by
        intro f as H r h
        simp only [ev, body] at h
        split at h
        · cases h
        · rename_i a ha
          unfold table at ha
          split at ha
          · rename_i fn hfn
            unfold fnOf at ha
            split at ha
            · cases ha
            · rename_i hname
              split at ha
              · rename_i c hc
                split at ha
                · rename_i b rs hb hrs
                  injection ha with ha
                  subst ha
                  split at h
                  · rename_i hl
                    exact ⟨fn, c, b, rs, hfn, by simpa using hname, hc, hb, hrs, hl, h⟩
                  · cases h
                · cases ha
              · cases ha
          · cases ha
      refine ⟨fun f as H r h => ?_, (ev_next_le (n + 1)).1, fun f as H v K h => ?_⟩
      · obtain ⟨fn, c, b, rs, h1, h2, h3, _⟩ := inv h
        exact ⟨fn, h1, h2, by rw [h3]; rfl⟩
      · obtain ⟨fn, c, b, rs, hfn, _, hc, hb, hrs, hl, hfin⟩ := inv h
        obtain ⟨e, s, vs, hr, he, hvs, hgc⟩ := finish_cases hfin
        intro μ A w bs hrl hH
        have hbl : bs.length = as.length := hrl.len.symm
        refine calls_of_wp hfn hc ?_
        have hT : RT μ A fn.ntmps (init as) { tmps := bs.toArray ++ Array.replicate (fn.ntmps - bs.toArray.size) Go.undef, defers := [] } := by
          refine ⟨by simp; omega, fun i => ?_⟩
          simp only [init, Array.getD_eq_getD_getElem?, List.getD_eq_getElem?_getD, List.size_toArray]
          by_cases hi : i < as.length
          · obtain ⟨u, hu, hru⟩ := hrl.get (List.getElem?_eq_getElem hi)
            rw [Array.getElem?_append_left (by simp; omega), List.getElem?_toArray, hu, List.getElem?_eq_getElem hi]
            exact hru
          · rw [List.getElem?_eq_none (by omega), Array.getElem?_append_right (by simp; omega), Array.getElem?_replicate]
            split <;> exact RV.undef
        refine exec_sound hm (fun m hm' => ih m (by omega)) c b hb n (Nat.le_refl _) hr rfl hT hH ?_
        rintro a' w' ⟨hd', ν, hE, hT'⟩
        obtain ⟨ws, hws, hrlw⟩ := resVals_sound hT' hE.rel hrs hvs
        have hres : (results fn a'.tmps).run P w' = .ok (oneVal ws) w' := by
          have e1 : results fn a'.tmps = (do let vs ← fn.results.mapM (resF a'.tmps); pure (if h : vs.size = 1 then vs[0] else .tuple vs)) := rfl
          rw [e1, Array.mapM_eq_mapM_toList]
          simp only [Sem.run_bind, Sem.run_map, hws, Result.andThen_ok, Sem.run_pure]
          congr 1
          unfold oneVal
          cases ws with
          | nil => rfl
          | cons x r => cases r with
            | nil => rfl
            | cons y r => simp
        have hone : RV ν (ext A H.next s.H.next) (oneVal vs) (oneVal ws) := by
          unfold oneVal
          cases vs with
          | nil => have := hrlw.len; cases ws with
            | nil => exact RV.undef
            | cons _ _ => simp at this
          | cons x r => cases r with
            | nil => obtain ⟨y, rfl, h1⟩ := RL.one hrlw; exact h1
            | cons y r =>
              have hl2 := hrlw.len
              cases ws with
              | nil => simp at hl2
              | cons p q => cases q with
                | nil => simp at hl2
                | cons p2 q => exact RV.tup_of hrlw
        have hout : Out μ A H w v K (oneVal ws) w' := by
          split at hgc
          · exact gcRet_out hH hE hone hgc
          · simp only [Option.some.injEq, Prod.mk.injEq] at hgc
            obtain ⟨rfl, rfl⟩ := hgc
            exact ⟨ν, hE, hone⟩
        rcases he with rfl | rfl
        · exact ⟨hd', oneVal ws, hres, oneVal ws, rfl, hout⟩
        · exact ⟨hd', oneVal ws, hres, oneVal ws, rfl, hout⟩

/-- What the abstract machine says of a call holds of the model's. -/
theorem call_sound (hm : P.follows .mixedOrders = true) {f : FuncId} {as : List Value} {H : Hp} {v : Value} {K : Hp} (h : call P (table P gcs) f as H = some (v, K)) : Sound P f as H v K := by
  obtain ⟨n, hn⟩ := of_lim h
  exact (ev_sound hm n).sound f as H v K hn
end
end Go.Proofs.Ytcofdkcccggmjaa.Am
