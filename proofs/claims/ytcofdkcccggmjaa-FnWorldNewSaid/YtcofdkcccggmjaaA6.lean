/- One operation, and rows of them in the text's order. -/
import Derived.Test.YtcofdkcccggmjaaA5
namespace Go.Proofs.Ytcofdkcccggmjaa.Am
open Go

/-- What a call may be taken for. -/
def Sound (P : Program) (f : FuncId) (as : List Value) (H : Hp) (v : Value) (K : Hp) : Prop :=
  ∀ (μ : Nat → Loc) (A : Nat → Prop) (w : World) (bs : List Value), RL μ A as bs → RelH μ A H w →
    Calls P f bs.toArray w fun e w' => ∃ v', e = .returned v' ∧ Out μ A H w v K v' w'

structure SoundC (P : Program) (cf : CF) : Prop where
  there : ∀ f as H r, cf f as H = some r → ∃ fn, P.funcs[f]? = some fn ∧ (fn.name == "runtime.NumGoroutine") = false ∧ fn.body.isNone = false
  le : ∀ f as H v K, cf f as H = some (v, K) → H.next ≤ K.next
  sound : ∀ f as H v K, cf f as H = some (v, K) → Sound P f as H v K

section
variable {P : Program} {μ : Nat → Loc} {A : Nat → Prop} {N : Nat} {t : Nat → Value} {a : Act} {H : Hp} {w : World}

theorem RT.mono {ν : Nat → Loc} {B : Nat → Prop} (hAB : ∀ i, A i → B i) (hm : ∀ i, A i → ν i = μ i) (h : RT μ A N t a) : RT ν B N t a := ⟨h.size, fun i => (h.at_ i).mono hAB hm⟩
theorem RT.put {ν : Nat → Loc} {B : Nat → Prop} (hAB : ∀ i, A i → B i) (hm : ∀ i, A i → ν i = μ i) (h : RT μ A N t a) {d : Option Nat} (hd : ∀ k, d = some k → k < N) {v v' : Value} (hv : RV ν B v v') :
    RT ν B N (Am.put t d v) (a.put d v') := by
  cases d with
  | none => exact h.mono hAB hm
  | some d =>
    have hdN := hd d rfl
    refine ⟨by simp [Act.put, h.size], fun i => ?_⟩
    have hg : (a.put (some d) v').tmps.getD i Go.undef = if i = d then v' else a.tmps.getD i Go.undef := by
      simp only [Act.put, Array.getD_eq_getD_getElem?, Array.getElem?_setIfInBounds]
      by_cases hi : d = i
      · subst hi; rw [if_pos rfl, if_pos (by rw [h.size]; exact hdN), if_pos rfl]; rfl
      · rw [if_neg hi, if_neg (Ne.symm hi)]
    rw [hg]
    simp only [Am.put, upd]
    split
    · exact hv
    · exact (h.at_ i).mono hAB hm

theorem aoOf_inv {ops : Array Oper} {o : Oper} {ao : AO} (h : aoOf P N ops o = some ao) : guardOf N ops o = some ao.g ∧ opOf P N o = some ao.op ∧ ao.d = o.dst ∧ ∀ k, o.dst = some k → k < N := by
  unfold aoOf at h
  split at h
  · rename_i g op hg hop
    split at h
    · rename_i d hd
      split at h
      · rename_i hlt
        injection h with h
        subst h
        exact ⟨hg, hop, hd.symm, fun k hk => by rw [hd] at hk; injection hk with hk; subst hk; exact hlt⟩
      · cases h
    · rename_i hd
      injection h with h
      subst h
      exact ⟨hg, hop, hd.symm, fun k hk => by rw [hd] at hk; cases hk⟩
  · cases h

theorem wanted_eq {ops : Array Oper} {o : Oper} {g : Option (Nat × Bool)} {b : Bool} (hT : RT μ A N t a) (hg : guardOf N ops o = some g) (h : wanted g t = some b) : Region.wanted o (yielded ops a.tmps) = b := by
  unfold guardOf at hg
  unfold Region.wanted
  split at hg
  · rename_i hn
    injection hg with hg
    subst hg
    simp only [wanted, Option.some.injEq] at h
    rw [hn]; exact h
  · rename_i j want hn
    split at hg
    · rename_i d hd
      split at hg
      · rename_i hlt
        injection hg with hg
        subst hg
        rw [hn]
        simp only [wanted] at h
        split at h
        · rename_i c hc
          injection h with h
          have hr := hT.at_ d
          rw [hc] at hr
          have hb := hr.bool_inv
          have hy : yielded ops a.tmps j = some c := by
            have hdl : d < a.tmps.size := by rw [hT.size]; exact hlt
            unfold yielded
            rw [hd]
            simp only [Option.bind_some]
            rw [Array.getD_eq_getD_getElem?, Array.getElem?_eq_getElem hdl, Option.getD_some] at hb
            rw [Array.getElem?_eq_getElem hdl, hb]
          simp only [hy]
          rw [← h]
          cases c <;> cases want <;> rfl
        · cases h
      · cases hg
    · cases hg

theorem callOf_call {c : Call} {g : FuncId} {as : List X} (h : callOf P N c = some (.h (.call g as))) : c.callee = .value (.func g) ∧ mapO (xOf N) c.args.toList = some as := by
  unfold callOf at h
  split at h
  · cases h
  · rename_i as' has
    split at h
    · rename_i hc; injection h with h; injection h with h; injection h with h1 h2; subst h1; subst h2; exact ⟨hc, has⟩
    · simp only [Option.map_eq_some_iff] at h; obtain ⟨y, _, e⟩ := h; cases e
    · split at h
      · split at h
        · split at h
          · split at h <;> cases h
          · cases h
        · cases h
      · cases h
    · split at h
      · simp only [Option.map_eq_some_iff] at h; obtain ⟨y, _, e⟩ := h; cases e
      · cases h
    · split at h <;> cases h
    · split at h <;> cases h
    · split at h
      · split at h
        · split at h
          · split at h <;> cases h
          · cases h
        · cases h
      · cases h
    · cases h
theorem callOf_callv {c : Call} {x : X} {as : List X} (h : callOf P N c = some (.h (.callv x as))) : ∃ y, c.callee = .value y ∧ xOf N y = some x ∧ mapO (xOf N) c.args.toList = some as := by
  unfold callOf at h
  split at h
  · cases h
  · rename_i as' has
    split at h
    · injection h with h; injection h with h; cases h
    · rename_i y _ hc; simp only [Option.map_eq_some_iff] at h; obtain ⟨z, hz, e⟩ := h; injection e with e; injection e with e1 e2; subst e1; subst e2; exact ⟨y, hc, hz, has⟩
    · split at h
      · split at h
        · split at h
          · split at h <;> cases h
          · cases h
        · cases h
      · cases h
    · split at h
      · simp only [Option.map_eq_some_iff] at h; obtain ⟨y, _, e⟩ := h; cases e
      · cases h
    · split at h <;> cases h
    · split at h <;> cases h
    · split at h
      · split at h
        · split at h
          · split at h <;> cases h
          · cases h
        · cases h
      · cases h
    · cases h

/-- Only a call is compiled to a call. -/
theorem opOf_isCall {o : Oper} {q : HO} (h : opOf P N o = some (.h q)) (hq : isCall q = true) : ∃ c, o.op = .call c ∧ callOf P N c = some (.h q) := by
  obtain ⟨dst, op, ty, pos, after, guard⟩ := o
  cases op
  case call c => exact ⟨c, rfl, h⟩
  all_goals
    exfalso
    simp only [opOf] at h
    repeat' first
      | (split at h)
      | (simp only [Option.map_eq_some_iff] at h; obtain ⟨_, _, h⟩ := h)
    all_goals first
      | contradiction
      | (cases h; done)
      | (injection h with h; injection h with h; subst h; cases hq; done)
      | (injection h with h; subst h; cases hq; done)

theorem callFunc_run {f : FuncId} {fn : Func} (hf : P.funcs[f]? = some fn) (hn : (fn.name == "runtime.NumGoroutine") = false) (hb : fn.body.isNone = false) (args : Array Value) : (callFunc f args).run P w = .ok (.enter f args) w := by
  simp only [callFunc, Sem.run_bind, run_program, Result.andThen_ok, hf, hn, hb, Bool.false_eq_true, if_false, Sem.run_pure]

def aopRun (P : Program) (cf : CF) (t : Nat → Value) (H : Hp) : AOp → Option (Value × Hp)
  | .p p => (pop P t p).map fun v => (v, H)
  | .h q => hop cf t H q

/-- One operation. -/
theorem op_wp {cf : CF} (hcf : SoundC P cf) {o : Oper} {q : AOp} {v : Value} {K' : Hp} (hT : RT μ A N t a) (hH : RelH μ A H w) (hc : opOf P N o = some q)
    (h : aopRun P cf t H q = some (v, K')) {K : Act → World → Prop} {Q : Exit → Act → World → Prop}
    (hK : ∀ v' w', Out μ A H w v K' v' w' → K (a.put o.dst v') w') : o.wp P a w K Q := by
  cases q with
  | p p =>
    simp only [aopRun, Option.map_eq_some_iff, Prod.mk.injEq] at h
    obtain ⟨u, hu, rfl, rfl⟩ := h
    obtain ⟨v', hv', hr⟩ := pop_sound hT hc hu
    unfold Oper.wp
    rw [hv' w]
    exact hK v' w (Out.of_same hH hr)
  | h q =>
    simp only [aopRun] at h
    cases hq : isCall q with
    | false =>
      obtain ⟨nx, v', w', hrun, hnx, hout⟩ := hop_sound hT hH hc hq h
      unfold Oper.wp
      rw [hrun]
      rcases hnx with rfl | ⟨rfl, rfl⟩
      · exact hK v' w' hout
      · exact hK Go.undef w' hout
    | true =>
      obtain ⟨c, hoc, hcc⟩ := opOf_isCall hc hq
      have main : ∀ {f : FuncId} {as bs : List Value}, cf f as H = some (v, K') → RL μ A as bs → (execOp a.eval o).run P w = (callFunc f bs.toArray).run P w → o.wp P a w K Q := by
        intro f as bs hcall hrl hrun
        obtain ⟨fn, hf, hn, hb⟩ := hcf.there f as H _ hcall
        unfold Oper.wp
        rw [hrun, callFunc_run hf hn hb]
        refine Calls.mono (hcf.sound f as H v K' hcall μ A w bs hrl hH) ?_
        rintro e w' ⟨v', rfl, hout⟩
        exact hK v' w' hout
      cases q with
      | call g as =>
        obtain ⟨h1, h2⟩ := callOf_call hcc
        simp only [hop] at h
        refine main h (mapO_rl hT h2) ?_
        rw [show (c.args.toList.map a.eval).toArray = c.args.map a.eval from by apply Array.ext'; simp]
        simp [execOp, hoc, resolve, h1, Act.eval, Deferred.ofValue, invoke]
      | callv x as =>
        obtain ⟨y, h1, h2, h3⟩ := callOf_callv hcc
        simp only [hop] at h
        split at h
        · rename_i f first cap hx
          have hr := xOf_rv hT h2
          rw [hx] at hr
          obtain ⟨bs, ds, hz, r1, r2⟩ := hr.fn_inv
          refine main h ((r1.append (mapO_rl hT h3)).append r2) ?_
          have e : (bs.toList ++ c.args.toList.map a.eval ++ ds.toList).toArray = bs ++ c.args.map a.eval ++ ds := by
            apply Array.ext'; simp
          rw [e]
          simp [execOp, hoc, resolve, h1, hz, Deferred.ofValue, invoke]
        · cases h
      | _ => cases hq

theorem step1_cases {cf : CF} {ao : AO} {s s' : St} (h : step1 P cf ao s = some s') : (wanted ao.g s.t = some false ∧ s' = ⟨put s.t ao.d Go.undef, s.H⟩) ∨
    (wanted ao.g s.t = some true ∧ ∃ v K, aopRun P cf s.t s.H ao.op = some (v, K) ∧ s' = ⟨put s.t ao.d v, K⟩) := by
  unfold step1 at h
  split at h
  · cases h
  · rename_i hw; injection h with h; exact .inl ⟨hw, h.symm⟩
  · rename_i hw
    refine .inr ⟨hw, ?_⟩
    split at h
    · rename_i p hp
      rw [hp]
      simp only [aopRun, Option.map_eq_some_iff, Prod.mk.injEq] at h ⊢
      obtain ⟨v, hv, e⟩ := h
      exact ⟨v, s.H, ⟨v, hv, rfl, rfl⟩, e.symm⟩
    · rename_i q hq
      rw [hq]
      simp only [Option.map_eq_some_iff] at h
      obtain ⟨⟨v, K⟩, hv, e⟩ := h
      exact ⟨v, K, hv, e.symm⟩

/-- The state behind a stretch. -/
def After (μ : Nat → Loc) (A : Nat → Prop) (N : Nat) (H : Hp) (w : World) (s' : St) (a' : Act) (w' : World) : Prop :=
  a'.defers = [] ∧ ∃ ν, Ext μ A H w ν s'.H w' ∧ RT ν (ext A H.next s'.H.next) N s'.t a'
theorem After.refl (hd : a.defers = []) (hT : RT μ A N t a) (hH : RelH μ A H w) : After μ A N H w ⟨t, H⟩ a w := ⟨hd, μ, Ext.refl hH, by rw [ext_self]; exact hT⟩
theorem put_defers (a : Act) (d : Option Tmp) (v : Value) : (a.put d v).defers = a.defers := by cases d <;> rfl

theorem steps_wp {cf : CF} (hcf : SoundC P cf) {ops : Array Oper} {Q : Exit → Act → World → Prop} : ∀ {l : List Oper} {os : List AO} {s s' : St} {a : Act} {w : World} {μ : Nat → Loc} {A : Nat → Prop},
    mapO (aoOf P N ops) l = some os → steps P cf os s = some s' → a.defers = [] → RT μ A N s.t a → RelH μ A s.H w → (∀ a' w', After μ A N s.H w s' a' w' → Q .normal a' w') → wpList P ops Q l a w
  | [], os, s, s', a, w, μ, A, hm, h, hd, hT, hH, hQ => by
    simp only [mapO, Option.some.injEq] at hm
    subst hm
    simp only [steps, Option.some.injEq] at h
    subst h
    exact hQ a w (After.refl hd hT hH)
  | o :: r, os, s, s', a, w, μ, A, hm, h, hd, hT, hH, hQ => by
    obtain ⟨ao, os', hao, hos, rfl⟩ := mapO_cons hm
    simp only [steps, Option.bind_eq_some_iff] at h
    obtain ⟨s1, h1, h2⟩ := h
    obtain ⟨hg, hop, hdd, hdN⟩ := aoOf_inv hao
    unfold wpList
    rcases step1_cases h1 with ⟨hw, rfl⟩ | ⟨hw, v, K, hv, rfl⟩
    · rw [wanted_eq hT hg hw, if_neg (by simp)]
      refine steps_wp hcf hos h2 (by rw [put_defers]; exact hd) ?_ hH hQ
      rw [hdd]
      exact hT.put (fun _ h => h) (fun _ _ => rfl) hdN RV.undef
    · rw [wanted_eq hT hg hw, if_pos rfl]
      refine .inl (op_wp hcf hT hH hop hv fun v' w' hout => ?_)
      obtain ⟨ν, hext, hr⟩ := hout
      refine steps_wp hcf hos h2 (by rw [put_defers]; exact hd) ?_ hext.rel ?_
      · rw [hdd]
        exact hT.put (fun _ h => .inl h) hext.agree hdN hr
      · rintro a' w'' ⟨hd', ξ, hext2, hT2⟩
        refine hQ a' w'' ⟨hd', ξ, hext.trans hext2, ?_⟩
        rw [← ext_ext A hext.le hext2.le]
        exact hT2
end
end Go.Proofs.Ytcofdkcccggmjaa.Am
