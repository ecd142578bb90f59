/- A region whose order is open: whatever the order, it comes to what the text's order comes to. -/
import Derived.Test.YtcofdkcccggmjaaA6
namespace Go.Proofs.Ytcofdkcccggmjaa.Am
open Go

section
variable {P : Program} {N : Nat}

/-! ### What the table of 'behind' says -/
structure BefOk (ops : Array Oper) (bs : List (List Nat)) : Prop where
  len : bs.length = ops.size
  lt : ∀ i j, j ∈ bs.getD i [] → j < i
  trans : ∀ i j k, j ∈ bs.getD i [] → k ∈ bs.getD j [] → k ∈ bs.getD i []
  edge : ∀ (i : Nat) o, ops[i]? = some o → ∀ e ∈ o.after, Region.binds .any e = true → e.on ∈ bs.getD i []
  srt : ∀ i, (bs.getD i []).Pairwise (· < ·)
  sound : ∀ (i : Nat) j, j ∈ bs.getD i [] → ∃ o, ops[i]? = some o ∧ ∃ e ∈ o.after, Region.binds .any e = true ∧ (j = e.on ∨ j ∈ bs.getD e.on [])

theorem befs_ok : ∀ (l : List Oper) (pre : List Oper) (acc bs : List (List Nat)), befs pre.length l acc = some bs → BefOk pre.toArray acc → BefOk (pre ++ l).toArray bs
  | [], pre, acc, bs, h, hb => by
    simp only [befs, Option.some.injEq] at h
    subst h
    simpa using hb
  | o :: r, pre, acc, bs, h, hb => by
    simp only [befs] at h
    split at h
    · rename_i hes
      have hlen : acc.length = pre.length := by simpa using hb.len
      have h' := h
      have hp : (pre ++ [o]).length = pre.length + 1 := by simp
      rw [← hp] at h'
      have key : BefOk (pre ++ [o]).toArray (acc ++ [(List.range pre.length).filter fun j => (o.after.toList.filter (Region.binds .any)).any fun e => e.on == j || (acc.getD e.on []).contains j]) := by
        have old : ∀ i, i < pre.length → (acc ++ [(List.range pre.length).filter fun j => (o.after.toList.filter (Region.binds .any)).any fun e => e.on == j || (acc.getD e.on []).contains j]).getD i [] = acc.getD i [] := by
          intro i hi
          simp only [List.getD_eq_getElem?_getD]
          rw [List.getElem?_append_left (by omega)]
        have new : ∀ j, j ∈ (acc ++ [(List.range pre.length).filter fun j => (o.after.toList.filter (Region.binds .any)).any fun e => e.on == j || (acc.getD e.on []).contains j]).getD pre.length [] ↔
            j < pre.length ∧ ∃ e ∈ o.after, Region.binds .any e = true ∧ (j = e.on ∨ j ∈ acc.getD e.on []) := by
          intro j
          simp only [List.getD_eq_getElem?_getD]
          rw [List.getElem?_append_right (by omega), hlen, Nat.sub_self]
          simp only [List.getElem?_cons_zero, Option.getD_some, List.mem_filter, List.mem_range, List.any_eq_true, Bool.or_eq_true, beq_iff_eq, List.contains_iff_mem, Array.mem_toList_iff]
          constructor
          · rintro ⟨h1, e, ⟨h2, h3⟩, h4⟩
            exact ⟨h1, e, h2, h3, h4.imp Eq.symm (fun h => h)⟩
          · rintro ⟨h1, e, h2, h3, h4⟩
            exact ⟨h1, e, ⟨h2, h3⟩, h4.imp Eq.symm (fun h => h)⟩
        have far : ∀ i, pre.length < i → (acc ++ [(List.range pre.length).filter fun j => (o.after.toList.filter (Region.binds .any)).any fun e => e.on == j || (acc.getD e.on []).contains j]).getD i [] = [] := by
          intro i hi
          simp only [List.getD_eq_getElem?_getD]
          rw [List.getElem?_eq_none (by simp; omega)]
          rfl
        have honlt : ∀ e ∈ o.after, Region.binds .any e = true → e.on < pre.length := by
          intro e he hbd
          have := List.all_eq_true.1 hes e (List.mem_filter.2 ⟨by simpa using he, hbd⟩)
          simpa using this
        generalize hacc : (acc ++ [(List.range pre.length).filter fun j => (o.after.toList.filter (Region.binds .any)).any fun e => e.on == j || (acc.getD e.on []).contains j]) = acc2 at *
        refine ⟨by rw [← hacc]; simp [hlen], fun i j hj => ?_, fun i j k hj hk => ?_, fun i o' ho' e he hbd => ?_, fun i => ?_, fun i j hj => ?_⟩
        · rcases Nat.lt_trichotomy i pre.length with hi | hi | hi
          · rw [old i hi] at hj; exact hb.lt i j hj
          · subst hi; exact ((new j).1 hj).1
          · rw [far i hi] at hj; cases hj
        · rcases Nat.lt_trichotomy i pre.length with hi | hi | hi
          · rw [old i hi] at hj ⊢
            have := hb.lt i j hj
            rw [old j (by omega)] at hk
            exact hb.trans i j k hj hk
          · subst hi
            obtain ⟨h1, e, h2, h3, h4⟩ := (new j).1 hj
            rw [old j h1] at hk
            have hkj := hb.lt j k hk
            refine (new k).2 ⟨by omega, e, h2, h3, .inr ?_⟩
            rcases h4 with h4 | h4
            · rw [← h4]; exact hk
            · exact hb.trans _ j k h4 hk
          · rw [far i hi] at hj; cases hj
        · have hi : i < pre.length + 1 := by have := (Array.getElem?_eq_some_iff.1 ho').1; simpa using this
          by_cases hip : i < pre.length
          · rw [old i hip]
            refine hb.edge i o' ?_ e he hbd
            simp only [List.getElem?_toArray] at ho' ⊢
            rw [List.getElem?_append_left hip] at ho'
            exact ho'
          · have hie : i = pre.length := by omega
            subst hie
            simp only [List.getElem?_toArray] at ho'
            rw [List.getElem?_append_right (Nat.le_refl _), Nat.sub_self] at ho'
            injection ho' with ho'
            subst ho'
            exact (new e.on).2 ⟨honlt e he hbd, e, he, hbd, .inl rfl⟩
        · rcases Nat.lt_trichotomy i pre.length with hi | hi | hi
          · rw [old i hi]; exact hb.srt i
          · subst hi
            rw [← hacc]
            simp only [List.getD_eq_getElem?_getD]
            rw [List.getElem?_append_right (by omega), hlen, Nat.sub_self]
            exact List.Pairwise.filter _ List.pairwise_lt_range
          · rw [far i hi]; exact List.Pairwise.nil
        · rcases Nat.lt_trichotomy i pre.length with hi | hi | hi
          · rw [old i hi] at hj
            obtain ⟨o', ho', e, he, hbd, hor⟩ := hb.sound i j hj
            refine ⟨o', ?_, e, he, hbd, ?_⟩
            · simp only [List.getElem?_toArray] at ho' ⊢
              rw [List.getElem?_append_left hi]
              exact ho'
            · rcases hor with h1 | h1
              · exact .inl h1
              · have hon := hb.lt i e.on (hb.edge i o' ho' e he hbd)
                rw [old _ (by omega)]
                exact .inr h1
          · subst hi
            obtain ⟨h1, e, h2, h3, h4⟩ := (new j).1 hj
            refine ⟨o, by simp, e, h2, h3, ?_⟩
            rw [old _ (honlt e h2 h3)]
            exact h4
          · rw [far i hi] at hj; cases hj
      have := befs_ok r (pre ++ [o]) _ bs h' key
      simpa using this
    · cases h
theorem befs_ok0 {ops : Array Oper} {bs : List (List Nat)} (h : befs 0 ops.toList [] = some bs) : BefOk ops bs := by
  have := befs_ok ops.toList [] [] bs h ⟨rfl, fun i j h => by simp at h, fun i j k h => by simp at h, fun i o h => by simp at h, fun i => by simp, fun i j h => by simp at h⟩
  simpa using this

/-! ### An operation looks at what it names alone -/
theorem X.congr {t u : Nat → Value} {x : X} (h : ∀ i ∈ x.us, t i = u i) : x.ev t = x.ev u := by
  cases x with
  | t i => exact h i (by simp [X.us])
  | _ => rfl
theorem evs_congr {t u : Nat → Value} : ∀ {xs : List X}, (∀ i ∈ xs.flatMap X.us, t i = u i) → evs t xs = evs u xs
  | [], _ => rfl
  | x :: r, h => by
    simp only [evs, List.map_cons]
    rw [X.congr fun i hi => h i (by simp [hi])]
    have := evs_congr (xs := r) fun i hi => h i (by rw [List.flatMap_cons]; exact List.mem_append_right _ hi)
    unfold evs at this
    rw [this]
theorem parts_congr {t u : Nat → Value} : ∀ {ps : List (Nat × Nat × X)}, (∀ i ∈ ps.flatMap (fun p => p.2.2.us), t i = u i) →
    (ps.map fun p => (p.1, p.2.1, p.2.2.ev t)) = (ps.map fun p => (p.1, p.2.1, p.2.2.ev u))
  | [], _ => rfl
  | p :: r, h => by
    simp only [List.map_cons]
    rw [X.congr (x := p.2.2) fun i hi => h i (by simp [hi]), parts_congr (ps := r) fun i hi => h i (by rw [List.flatMap_cons]; exact List.mem_append_right _ hi)]
theorem optNat_congr {t u : Nat → Value} {x : Option X} (h : ∀ i ∈ x.toList.flatMap X.us, t i = u i) : optNat t x = optNat u x := by
  cases x with
  | none => rfl
  | some x => simp only [optNat]; rw [X.congr fun i hi => h i (by simpa using hi)]
theorem pop_congr {t u : Nat → Value} {p : PO} (h : ∀ i ∈ p.us, t i = u i) : pop P t p = pop P u p := by
  cases p with
  | pick c a b => simp only [pop]; rw [X.congr (x := c) fun i hi => h i (by simp [PO.us, hi]), X.congr (x := a) fun i hi => h i (by simp [PO.us, hi]), X.congr (x := b) fun i hi => h i (by simp [PO.us, hi])]
  | bld z ps => simp only [pop]; rw [parts_congr h]
  | ar op x y => simp only [pop]; rw [X.congr (x := x) fun i hi => h i (by simp [PO.us, hi]), X.congr (x := y) fun i hi => h i (by simp [PO.us, hi])]
  | eq neg ty x y => simp only [pop]; rw [X.congr (x := x) fun i hi => h i (by simp [PO.us, hi]), X.congr (x := y) fun i hi => h i (by simp [PO.us, hi])]
  | ia sz x y => simp only [pop]; rw [X.congr (x := x) fun i hi => h i (by simp [PO.us, hi]), X.congr (x := y) fun i hi => h i (by simp [PO.us, hi])]
  | sli sz x lo hi => simp only [pop]; rw [X.congr (x := x) fun i hi' => h i (by simp only [PO.us, List.mem_append]; exact .inl (.inl hi')), optNat_congr (x := lo) fun i hi' => h i (by simp only [PO.us, List.mem_append]; exact .inl (.inr hi')), optNat_congr (x := hi) fun i hi' => h i (by simp only [PO.us, List.mem_append]; exact .inr hi')]
  | fn g a b => simp only [pop]; rw [evs_congr (xs := a) fun i hi => h i (by simp only [PO.us, List.mem_append]; exact .inl hi), evs_congr (xs := b) fun i hi => h i (by simp only [PO.us, List.mem_append]; exact .inr hi)]
  | max xs => simp only [pop]; rw [evs_congr h]
  | min xs => simp only [pop]; rw [evs_congr h]
  | _ => simp only [pop]; rw [X.congr h]
theorem hop_congr {cf : CF} {t u : Nat → Value} {H : Hp} {q : HO} (h : ∀ i ∈ q.us, t i = u i) : hop cf t H q = hop cf u H q := by
  cases q with
  | new z => rfl
  | bsl sz z len ps => simp only [hop]; rw [parts_congr h]
  | mks sz b z l c => simp only [hop]; rw [X.congr (x := l) fun i hi => h i (by simp [HO.us, hi]), X.congr (x := c) fun i hi => h i (by simp [HO.us, hi])]
  | st n x y => simp only [hop]; rw [X.congr (x := x) fun i hi => h i (by simp [HO.us, hi]), X.congr (x := y) fun i hi => h i (by simp [HO.us, hi])]
  | app sz b x y => simp only [hop]; rw [X.congr (x := x) fun i hi => h i (by simp [HO.us, hi]), X.congr (x := y) fun i hi => h i (by simp [HO.us, hi])]
  | call f as => simp only [hop]; rw [evs_congr h]
  | callv x as => simp only [hop]; rw [X.congr (x := x) fun i hi => h i (by simp only [HO.us, List.mem_append]; exact .inl hi), evs_congr (xs := as) fun i hi => h i (by simp only [HO.us, List.mem_append]; exact .inr hi)]
  | _ => simp only [hop]; rw [X.congr h]
theorem wanted_congr {t u : Nat → Value} {g : Option (Nat × Bool)} (h : ∀ i ∈ (match g with | some (i, _) => [i] | none => []), t i = u i) : wanted g t = wanted g u := by
  cases g with
  | none => rfl
  | some p => obtain ⟨i, b⟩ := p; simp only [wanted]; rw [h i (by simp)]

theorem append_le {H : Hp} {sz b : Nat} {v w r : Value} {K : Hp} (h : appendA H sz b v w = some (r, K)) : H.next ≤ K.next := by
  unfold appendA at h
  repeat' first
    | (split at h)
    | (injection h with h; injection h with _ h; subst h; first | exact Nat.le_refl _ | (simp only [Hp.add_next, Hp.set_next]; omega))
    | (cases h; done)
theorem hop_le {cf : CF} (hcf : ∀ f as H v K, cf f as H = some (v, K) → H.next ≤ K.next) {t : Nat → Value} {H : Hp} {q : HO} {v : Value} {K : Hp} (h : hop cf t H q = some (v, K)) : H.next ≤ K.next := by
  cases q with
  | call f as => exact hcf _ _ _ _ _ h
  | callv x as =>
    simp only [hop] at h
    split at h
    · exact hcf _ _ _ _ _ h
    · cases h
  | app sz b x y => exact append_le h
  | ld n x =>
    simp only [hop] at h
    split at h
    · simp only [Option.map_eq_some_iff, Prod.mk.injEq] at h; obtain ⟨_, _, _, rfl⟩ := h; exact Nat.le_refl _
    · cases h
  | bsl sz z len ps =>
    simp only [hop] at h
    split at h
    · simp only [Option.some.injEq, Prod.mk.injEq] at h; obtain ⟨_, rfl⟩ := h; exact Nat.le_succ _
    · simp only [Option.bind_eq_some_iff] at h
      obtain ⟨cs, _, h⟩ := h
      split at h
      · simp only [Option.some.injEq, Prod.mk.injEq] at h; obtain ⟨_, rfl⟩ := h; exact Nat.le_succ _
      · cases h
  | _ =>
    simp only [hop] at h
    repeat' first
      | (split at h)
      | (simp only [Option.some.injEq, Prod.mk.injEq] at h; obtain ⟨_, rfl⟩ := h; first | exact Nat.le_refl _ | (simp only [Hp.add_next]; omega))
      | (cases h; done)

/-! ### The region as it was done in the text's order -/

/-- What was done, operation by operation. -/
structure Plan (P : Program) (cf : CF) (os : List AO) (bs : List (List Nat)) (n0 : Nat) (g0 : Nat → Option Ob) (t0 : Nat → Value) where
  v : Nat → Value
  r : Nat → DR
  tt : Nat → Nat → Value
  nx : Nat → Nat
  t_0 : tt 0 = t0
  nx_0 : nx 0 = n0
  t_s : ∀ i ao, os[i]? = some ao → tt (i + 1) = put (tt i) ao.d (v i)
  done : ∀ i ao, os[i]? = some ao →
    (wanted ao.g (tt i) = some false ∧ v i = Go.undef ∧ r i = .no (nx i) g0 ∧ nx (i + 1) = nx i) ∨
    (wanted ao.g (tt i) = some true ∧ (∃ p, ao.op = .p p ∧ pop P (tt i) p = some (v i)) ∧ r i = .no (nx i) g0 ∧ nx (i + 1) = nx i) ∨
    (wanted ao.g (tt i) = some true ∧ (∃ n x id off, ao.op = .h (.ld n x) ∧ x.ev (tt i) = .pointer (some ⟨id, off, none⟩) ∧ ldA ⟨nx i, heapAt n0 g0 ((List.range os.length).map r) (bs.getD i [])⟩ n id off = some (v i) ∧ r i = ⟨nx i, nx i, fun _ => False, g0, some (some id)⟩) ∧ nx (i + 1) = nx i) ∨
    (wanted ao.g (tt i) = some true ∧ (∃ q K, ao.op = .h q ∧ hop cf (tt i) ⟨nx i, heapAt n0 g0 ((List.range os.length).map r) (bs.getD i [])⟩ q = some (v i, K) ∧ r i = ⟨nx i, K.next, fun id => id < nx i ∧ K.get id ≠ heapAt n0 g0 ((List.range os.length).map r) (bs.getD i []) id, K.get, some none⟩ ∧ nx (i + 1) = K.next))
  ok : okAll bs ((List.range os.length).map r)

theorem heapAt_congr {n0 : Nat} {rs rs' : List DR} : ∀ {bef : List Nat} {g : Nat → Option Ob}, (∀ j ∈ bef, rs[j]? = rs'[j]?) →
    bef.foldl (fun g j => match rs[j]? with | some r => mrg n0 g r | none => g) g = bef.foldl (fun g j => match rs'[j]? with | some r => mrg n0 g r | none => g) g
  | [], _, _ => rfl
  | j :: r, g, h => by
    simp only [List.foldl_cons]
    rw [h j List.mem_cons_self]
    exact heapAt_congr fun k hk => h k (List.mem_cons_of_mem _ hk)

theorem draws_chain {cf : CF} {n0 : Nat} {g0 : Nat → Option Ob} : ∀ (l : List DO) (s d : DS), draws P cf n0 g0 l s = some d →
    ∃ S : Nat → DS, S 0 = s ∧ S l.length = d ∧ ∀ i o, l[i]? = some o → draw1 P cf n0 g0 o (S i) = some (S (i + 1))
  | [], s, d, h => by
    simp only [draws, Option.some.injEq] at h
    exact ⟨fun _ => s, rfl, h, fun i o h => by simp at h⟩
  | o :: r, s, d, h => by
    simp only [draws, Option.bind_eq_some_iff] at h
    obtain ⟨s1, h1, h2⟩ := h
    obtain ⟨S, hS0, hSn, hS⟩ := draws_chain r s1 d h2
    refine ⟨fun i => match i with | 0 => s | i + 1 => S i, rfl, hSn, fun i o' ho' => ?_⟩
    cases i with
    | zero =>
      simp at ho'
      subst ho'
      rw [← hS0] at h1
      exact h1
    | succ i => exact hS i o' (by simpa using ho')

theorem plan_of {cf : CF} {ops : Array Oper} {os : List AO} {bs : List (List Nat)} (hb : BefOk ops bs) (hbl : bs.length = os.length) {n0 : Nat} {g0 : Nat → Option Ob} {t0 : Nat → Value} {d : DS}
    (h : draws P cf n0 g0 (doOf os bs) ⟨t0, [], n0⟩ = some d) (hok : okAll ((doOf os bs).map (·.bef)) d.rs) : ∃ p : Plan P cf os bs n0 g0 t0, d.t = p.tt os.length ∧ d.nx = p.nx os.length ∧ d.rs = (List.range os.length).map p.r := by
  obtain ⟨S, hS0, hSn, hS⟩ := draws_chain _ _ _ h
  have hlen : (doOf os bs).length = os.length := by simp [doOf]
  rw [hlen] at hSn
  subst hSn
  have hdo : ∀ i ao, os[i]? = some ao → (doOf os bs)[i]? = some (⟨ao, bs.getD i [], cmpOf os bs i⟩ : DO) := by
    intro i ao hi
    have hlt : i < os.length := (List.getElem?_eq_some_iff.1 hi).1
    simp only [doOf, List.getElem?_map, List.getElem?_range hlt, Option.map_some]
    simp [List.getD_eq_getElem?_getD, hi]
  have hbs : (doOf os bs).map (·.bef) = bs := by
    apply List.ext_getElem?
    intro i
    simp only [doOf, List.map_map, List.getElem?_map]
    by_cases hi : i < os.length
    · rw [List.getElem?_range hi, List.getElem?_eq_getElem (by omega : i < bs.length)]
      simp [List.getD_eq_getElem?_getD, List.getElem?_eq_getElem (by omega : i < bs.length)]
    · rw [List.getElem?_eq_none (by simp; omega), List.getElem?_eq_none (by omega)]
      rfl
  rw [hbs] at hok
  -- each step adds one record
  let T : Nat → AO → Value → DR → Prop := fun i ao v r =>
    (wanted ao.g (S i).t = some false ∧ v = Go.undef ∧ r = .no (S i).nx g0 ∧ (S (i + 1)).nx = (S i).nx) ∨
    (wanted ao.g (S i).t = some true ∧ (∃ p, ao.op = .p p ∧ pop P (S i).t p = some v) ∧ r = .no (S i).nx g0 ∧ (S (i + 1)).nx = (S i).nx) ∨
    (wanted ao.g (S i).t = some true ∧ (∃ n x id off, ao.op = .h (.ld n x) ∧ x.ev (S i).t = .pointer (some ⟨id, off, none⟩) ∧ ldA ⟨(S i).nx, heapAt n0 g0 (S i).rs (bs.getD i [])⟩ n id off = some v ∧ r = ⟨(S i).nx, (S i).nx, fun _ => False, g0, some (some id)⟩) ∧ (S (i + 1)).nx = (S i).nx) ∨
    (wanted ao.g (S i).t = some true ∧ (∃ q K, ao.op = .h q ∧ hop cf (S i).t ⟨(S i).nx, heapAt n0 g0 (S i).rs (bs.getD i [])⟩ q = some (v, K) ∧ r = ⟨(S i).nx, K.next, fun id => id < (S i).nx ∧ K.get id ≠ heapAt n0 g0 (S i).rs (bs.getD i []) id, K.get, some none⟩ ∧ (S (i + 1)).nx = K.next))
  have step : ∀ i ao, os[i]? = some ao → ∃ v r, (S (i + 1)).rs = (S i).rs ++ [r] ∧ (S (i + 1)).t = put (S i).t ao.d v ∧ T i ao v r := by
    intro i ao hi
    have h1 := hS i _ (hdo i ao hi)
    unfold draw1 at h1
    simp only at h1
    split at h1
    · cases h1
    · rename_i hw
      injection h1 with h1
      exact ⟨_, _, by rw [← h1], by rw [← h1], .inl ⟨hw, rfl, rfl, by rw [← h1]⟩⟩
    · rename_i hw
      split at h1
      · rename_i p hp
        simp only [Option.map_eq_some_iff] at h1
        obtain ⟨v, hv, h1⟩ := h1
        exact ⟨v, _, by rw [← h1], by rw [← h1], .inr (.inl ⟨hw, ⟨p, hp, hv⟩, rfl, by rw [← h1]⟩)⟩
      · rename_i n x hq
        split at h1
        · rename_i id off hx
          simp only [Option.map_eq_some_iff] at h1
          obtain ⟨v, hv, h1⟩ := h1
          exact ⟨v, _, by rw [← h1], by rw [← h1], .inr (.inr (.inl ⟨hw, ⟨n, x, id, off, hq, hx, hv, rfl⟩, by rw [← h1]⟩))⟩
        · cases h1
      · rename_i q _ hq
        simp only [Option.map_eq_some_iff] at h1
        obtain ⟨⟨v, K⟩, hv, h1⟩ := h1
        exact ⟨v, _, by rw [← h1], by rw [← h1], .inr (.inr (.inr ⟨hw, ⟨q, K, hq, hv, rfl, by rw [← h1]⟩⟩))⟩
  have hex : ∀ i, ∃ vr : Value × DR, ∀ ao, os[i]? = some ao → (S (i + 1)).rs = (S i).rs ++ [vr.2] ∧ (S (i + 1)).t = put (S i).t ao.d vr.1 ∧ T i ao vr.1 vr.2 := by
    intro i
    cases hi : os[i]? with
    | none => exact ⟨(Go.undef, .no 0 g0), fun ao h => by cases h⟩
    | some ao =>
      obtain ⟨v, r, h1, h2, h3⟩ := step i ao hi
      exact ⟨(v, r), fun ao' h => by injection h with h; subst h; exact ⟨h1, h2, h3⟩⟩
  obtain ⟨f, hf⟩ := Classical.axiomOfChoice hex
  have hrs : ∀ i, i ≤ os.length → (S i).rs = (List.range i).map fun j => (f j).2 := by
    intro i
    induction i with
    | zero => intro _; rw [hS0]; rfl
    | succ i ih =>
      intro hi
      have hlt : i < os.length := by omega
      rw [((hf i) _ (List.getElem?_eq_getElem hlt)).1, ih (by omega), List.range_succ, List.map_append]
      rfl
  have hat : ∀ i, i < os.length → heapAt n0 g0 (S i).rs (bs.getD i []) = heapAt n0 g0 ((List.range os.length).map fun j => (f j).2) (bs.getD i []) := by
    intro i hi
    unfold heapAt
    refine heapAt_congr fun j hj => ?_
    have hji := hb.lt i j hj
    rw [hrs i (by omega), List.getElem?_map, List.getElem?_map, List.getElem?_range hji, List.getElem?_range (by omega)]
  refine ⟨⟨fun i => (f i).1, fun i => (f i).2, fun i => (S i).t, fun i => (S i).nx, by rw [hS0], by rw [hS0], fun i ao hi => (hf i ao hi).2.1, fun i ao hi => ?_, by rw [← hrs os.length (Nat.le_refl _)]; exact hok⟩, rfl, rfl, hrs os.length (Nat.le_refl _)⟩
  have hlt : i < os.length := (List.getElem?_eq_some_iff.1 hi).1
  obtain ⟨_, _, h3⟩ := hf i ao hi
  simp only [T] at h3
  rw [hat i hlt] at h3
  exact h3

/-! ### A load leaves all as it is -/
theorem opOf_isLd {N : Nat} {o : Oper} {n : Option Nat} {x : X} (h : opOf P N o = some (.h (.ld n x))) : ∃ ty y, o.op = .load ty y ∧ ldOf P ty = some n ∧ xOf N y = some x := by
  obtain ⟨dst, op, ty, pos, after, guard⟩ := o
  cases op
  case load t y =>
    simp only [opOf] at h
    split at h
    · rename_i n' y' h1 h2
      injection h with h; injection h with h; injection h with ha hb
      subst ha; subst hb
      exact ⟨t, y, rfl, h1, h2⟩
    · cases h
  all_goals
    exfalso
    simp only [opOf] at h
    try unfold callOf at h
    repeat' first
      | (split at h)
      | (simp only [Option.map_eq_some_iff] at h; obtain ⟨_, _, h⟩ := h)
  all_goals first
    | contradiction
    | (cases h; done)
    | (injection h with h; injection h with h; cases h; done)
    | (injection h with h; cases h; done)
theorem ld_wp {N : Nat} {o : Oper} {n : Option Nat} {x : X} {μ : Nat → Loc} {A : Nat → Prop} {t : Nat → Value} {a : Act} {H : Hp} {w : World} {v : Value} {id off : Nat} (hT : RT μ A N t a) (hH : RelH μ A H w) (hc : opOf P N o = some (.h (.ld n x)))
    (hx : x.ev t = .pointer (some ⟨id, off, none⟩)) (h : ldA H n id off = some v) {K : Act → World → Prop} {Q : Exit → Act → World → Prop}
    (hK : ∀ v', RV μ A v v' → K (a.put o.dst v') w) : o.wp P a w K Q := by
  obtain ⟨ty, y, ho, hn, hy⟩ := opOf_isLd hc
  have hr := xOf_rv hT hy
  rw [hx] at hr
  generalize hz : a.eval y = z at hr
  cases hr with
  | ptr _ _ hA =>
    obtain ⟨v', hv', hr'⟩ := ld_run hn hH h
    unfold Oper.wp
    have : (execOp a.eval o).run P w = .ok (.value v') w := by
      obtain ⟨dst, op, ty', pos, after, guard⟩ := o
      simp only at ho
      subst ho
      simp [execOp, hz, Instr.loadAt, Instr.sureAddr, hv']
    rw [this]
    exact hK v' hr'
end
end Go.Proofs.Ytcofdkcccggmjaa.Am
