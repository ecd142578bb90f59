/- What looks at no memory comes to the same in the model: each such operation. -/
import Derived.Test.YtcofdkcccggmjaaA2
namespace Go.Proofs.Ytcofdkcccggmjaa.Am
open Go

/-- The temporaries lie as told. -/
structure RT (μ : Nat → Loc) (A : Nat → Prop) (N : Nat) (t : Nat → Value) (a : Act) : Prop where
  size : a.tmps.size = N
  at_ : ∀ i, RV μ A (t i) (a.tmps.getD i Go.undef)

section
variable {μ : Nat → Loc} {A : Nat → Prop} {N : Nat} {t : Nat → Value} {a : Act}
theorem xOf_rv (hT : RT μ A N t a) {o : Operand} {x : X} (h : xOf N o = some x) : RV μ A (x.ev t) (a.eval o) := by
  cases o with
  | tmp i =>
    simp only [xOf] at h
    split at h
    · injection h with h; subst h; exact hT.at_ i
    · cases h
  | const v =>
    simp only [xOf] at h
    split at h
    · rename_i hf; injection h with h; subst h; exact .of_flat hf
    · cases h
  | func f => simp only [xOf, Option.some.injEq] at h; subst h; exact RV.fn_of _ (l := []) (m := []) RL.nil RL.nil
  | global g => simp [xOf] at h
theorem mapO_cons {α β : Type} {f : α → Option β} {x : α} {r : List α} {bs : List β} (h : mapO f (x :: r) = some bs) : ∃ b bs', f x = some b ∧ mapO f r = some bs' ∧ bs = b :: bs' := by
  simp only [mapO] at h
  split at h
  · rename_i b bs' hb hbs; injection h with h; exact ⟨b, bs', hb, hbs, h.symm⟩
  · cases h
theorem mapO_rl (hT : RT μ A N t a) : ∀ {os : List Operand} {xs : List X}, mapO (xOf N) os = some xs → RL μ A (evs t xs) (os.map a.eval)
  | [], _, h => by simp only [mapO, Option.some.injEq] at h; subst h; exact RL.nil
  | o :: r, xs, h => by
    obtain ⟨b, bs, hb, hbs, rfl⟩ := mapO_cons h
    exact RL.cons (xOf_rv hT hb) (mapO_rl hT hbs)

theorem RV.bool_inv {b : Bool} {w : Value} (h : RV μ A (.bool b) w) : w = .bool b := h.flat_eq rfl
theorem RV.int_inv {k : IntKind} {n : Int} {w : Value} (h : RV μ A (.int k n) w) : w = .int k n := h.flat_eq rfl


theorem splice_get {cs : List Value} {off : Nat} {vs : List Value} (h : off + vs.length ≤ cs.length) (i : Nat) :
    (splice cs off vs)[i]? = if i < off then cs[i]? else if i < off + vs.length then vs[i - off]? else cs[i]? := by
  unfold splice
  have hl : (cs.take off).length = off := by rw [List.length_take]; omega
  by_cases h1 : i < off
  · rw [if_pos h1, List.append_assoc, List.getElem?_append_left (by omega), List.getElem?_take, if_pos h1]
  · rw [if_neg h1, List.append_assoc, List.getElem?_append_right (by omega), hl]
    by_cases h2 : i < off + vs.length
    · rw [if_pos h2, List.getElem?_append_left (by omega)]
    · rw [if_neg h2, List.getElem?_append_right (by omega), List.getElem?_drop]
      congr 1
      omega
theorem splice_length {cs : List Value} {off : Nat} {vs : List Value} (h : off + vs.length ≤ cs.length) : (splice cs off vs).length = cs.length := by
  unfold splice
  rw [List.length_append, List.length_append, List.length_take, List.length_drop]
  omega

/-- Cells set one by one. -/
theorem setFrom (vs : List Value) : ∀ (k off : Nat) (acc : Array Value), off + k + vs.length ≤ acc.size →
    ((vs.zipIdx k).foldl (fun cs (p : Value × Nat) => cs.setIfInBounds (off + p.2) p.1) acc).toList = splice acc.toList (off + k) vs := by
  induction vs with
  | nil => intro k off acc _; simp [splice]
  | cons v r ih =>
    intro k off acc h
    simp only [List.length_cons] at h
    rw [List.zipIdx_cons, List.foldl_cons, ih (k + 1) off _ (by rw [Array.size_setIfInBounds]; omega)]
    have hs : acc.toList.length = acc.size := Array.length_toList
    apply List.ext_getElem?
    intro i
    rw [splice_get (by rw [Array.toList_setIfInBounds, List.length_set]; omega), splice_get (by rw [List.length_cons]; omega), Array.toList_setIfInBounds, List.length_cons]
    by_cases h1 : i < off + k
    · rw [if_pos (by omega), if_pos h1, List.getElem?_set_ne (by omega)]
    · rw [if_neg h1]
      by_cases h2 : i = off + k
      · subst h2
        rw [if_pos (by omega), if_pos (by omega), List.getElem?_set_self (by omega)]
        simp
      · rw [if_neg (by omega)]
        by_cases h3 : i < off + k + (r.length + 1)
        · rw [if_pos (by omega), if_pos h3]
          have e2 : i - (off + k) = (i - (off + (k + 1))) + 1 := by omega
          rw [e2, List.getElem?_cons_succ]
        · rw [if_neg (by omega), if_neg h3, List.getElem?_set_ne (by omega)]

theorem fill_rl {place : Nat → Option (Nat × Nat)} : ∀ {ps : List (Nat × Value)} {qs : List (Nat × Nat × Value)} {cs cs' : List Value} {ds : Array Value},
    ps.length = qs.length → (∀ (i : Nat) (p : Nat × Value) (q : Nat × Nat × Value), ps[i]? = some p → qs[i]? = some q → place p.1 = some (q.1, q.2.1) ∧ RV μ A q.2.2 p.2) → RL μ A cs ds.toList → afill cs qs = some cs' →
    ∃ ds', Instr.fill place ds ps = some ds' ∧ RL μ A cs' ds'.toList
  | [], [], cs, cs', ds, _, _, hl, h => by simp only [afill, Option.some.injEq] at h; subst h; exact ⟨ds, rfl, hl⟩
  | [], _ :: _, _, _, _, he, _, _, _ => by simp at he
  | _ :: _, [], _, _, _, he, _, _, _ => by simp at he
  | (i, w) :: ps, (off, n, v) :: qs, cs, cs', ds, he, hp, hl, h => by
    obtain ⟨hpl, hr⟩ := hp 0 _ _ rfl rfl
    simp only [afill] at h
    split at h
    · rename_i hc
      obtain ⟨hc1, hc2, hc3⟩ := hc
      have hcl := hr.cells hc3
      have hsz : w.cells.size = n := by have := hcl.len; rw [hc1] at this; rw [this, Array.length_toList]
      have hds : ds.size = cs.length := by rw [hl.len, Array.length_toList]
      have key := setFrom w.cells.toList 0 off ds (by rw [Array.length_toList]; omega)
      have hstep : Instr.fill place ds ((i, w) :: ps) = Instr.fill place (w.cells.zipIdx.foldl (fun cs (c, j) => cs.setIfInBounds (off + j) c) ds) ps := by
        simp only [Instr.fill, hpl]
        have hb : (w.cells.size ≠ n || off + w.cells.size > ds.size) = false := by simp [hsz]; omega
        simp only [hb, Bool.false_eq_true, if_false]
      rw [hstep]
      refine fill_rl (by simpa using he) (fun j p q h1 h2 => hp (j + 1) p q (by simpa using h1) (by simpa using h2)) ?_ h
      have e : (w.cells.zipIdx.foldl (fun cs (c, j) => cs.setIfInBounds (off + j) c) ds).toList = splice ds.toList off w.cells.toList := by
        rw [← Array.foldl_toList, Array.toList_zipIdx]
        simpa using key
      rw [e]
      exact hl.splice off hcl
    · cases h

theorem asNat_rv {v w : Value} {n : Nat} (h : asNat v = some n) (hr : RV μ A v w) : ∃ k i, v = .int k i ∧ w = .int k i ∧ 0 ≤ i ∧ i.toNat = n := by
  unfold asNat at h
  split at h
  · rename_i k i
    split at h
    · rename_i h0; injection h with h; exact ⟨k, i, rfl, hr.int_inv, h0, h⟩
    · cases h
  · cases h

/-- It comes to a value, whatever the memory. -/
def Comes1 (P : Program) (μ : Nat → Loc) (A : Nat → Prop) (s : Sem Next) (v : Value) : Prop := ∃ v', (∀ w, s.run P w = .ok (.value v') w) ∧ RV μ A v v'

theorem comes_sem {P : Program} {s : Sem Value} {v v' : Value} (h : ∀ w, s.run P w = .ok v' w) (hr : RV μ A v v') : Comes1 P μ A (do pure (.value (← s))) v :=
  ⟨v', fun w => by simp [h w], hr⟩

theorem aint_run {P : Program} {op : BinOp} {ty : TypeId} {xo yo : Operand} {k : IntKind} {i j : Int} {v : Value} (h : aint op k i j = some v) (w : World) :
    (do eqGuard op ty xo yo (.int k i) (.int k j); binOp op ty (.int k i) (.int k j)).run P w = .ok v w := by
  cases op <;> simp only [aint, Option.some.injEq] at h <;> first
    | cases h; done
    | (subst h; simp [eqGuard, binOp, Op.intArith, Op.intBits, Op.intCmp]; done)
    | (split at h
       · cases h
       · rename_i h0; injection h with h; subst h; simp [eqGuard, binOp, Op.intDiv, h0])

theorem eqn_run {P : Program} {ty e : TypeId} (hu : undOf P ty = some (.slice e)) (xo yo : Operand) (ad : Option Addr) (n c : Nat) (neg : Bool) (w : World) :
    (do eqGuard (bif neg then .neq else .eql) ty xo yo (.slice ad n c) (.slice none 0 0); binOp (bif neg then .neq else .eql) ty (.slice ad n c) (.slice none 0 0)).run P w = .ok (.bool (ad.isNone != neg)) w := by
  have hr := und_run hu w
  have he : ∀ d, (Op.equalIn (d + 1) ty (.slice ad n c) (.slice none 0 0)).run P w = .ok ad.isNone w := by
    intro d
    simp only [Op.equalIn, Sem.run_bind, hr, Result.andThen_ok]
    cases ad <;> simp
  have he' : (Op.equal ty (.slice ad n c) (.slice none 0 0)).run P w = .ok ad.isNone w := he 9999
  cases neg <;> simp [eqGuard, binOp, he']

theorem part_run {P : Program} {ty : TypeId} {n : Option Nat} (h : ldOf P ty = some n) (cs : Array Value) (off : Nat) {v : Value}
    (hv : partA n cs off = some v) (w : World) : (part ty cs off).run P w = .ok v w := by
  unfold ldOf at h
  split at h
  · rename_i k ha hs
    injection h with h
    subst h
    simp only [partA, Option.some.injEq] at hv
    subst hv
    simp [part, run_of_evalP ha, sz_run hs]
  · rename_i ha
    injection h with h
    subst h
    simp only [partA] at hv
    simp [part, run_of_evalP ha, hv]
  · cases h

theorem optM_some {α β : Type} {f : α → Option β} {a : α} {r : Option β} (h : optM f (some a) = some r) : ∃ b, f a = some b ∧ r = some b := by
  simp only [optM, Option.map_eq_some_iff] at h
  obtain ⟨b, hb, e⟩ := h
  exact ⟨b, hb, e.symm⟩
theorem optM_none {α β : Type} {f : α → Option β} {r : Option β} (h : optM f none = some r) : r = none := by
  simp only [optM, Option.some.injEq] at h; exact h.symm

theorem bound_run {P : Program} {v' : Value} {n y : Nat} {code : BoundsCode} {k : IntKind} {i : Int} (e : v' = .int k i) (h0 : 0 ≤ i) (hn : i.toNat = n) (hy : n ≤ y) (w : World) :
    (Instr.sliceBound v' y code).run P w = .ok n w := by
  subst e
  have : i ≤ y := by omega
  simp [Instr.sliceBound, asIntOf, h0, this, hn]

theorem bounds_run {P : Program} {lo hi : Option Operand} {lx hx : Option X} {l h : Option Nat} (hT : RT μ A N t a) (h1 : optM (xOf N) lo = some lx) (h2 : optM (xOf N) hi = some hx)
    (h3 : optNat t lx = some l) (h4 : optNat t hx = some h) {len cap : Nat} (hc : len ≤ cap) (hlh : l.getD 0 ≤ h.getD len) (hhl : h.getD len ≤ len) (b : Bool) (w : World) :
    (Instr.sliceBounds b len cap (lo.map a.eval) (hi.map a.eval) none).run P w = .ok (l.getD 0, h.getD len, cap) w := by
  have key : ∀ (o : Option Operand) (x : Option X) (n : Option Nat), optM (xOf N) o = some x → optNat t x = some n →
      (o = none ∧ n = none) ∨ ∃ q m, o = some q ∧ n = some m ∧ ∃ k i, a.eval q = .int k i ∧ 0 ≤ i ∧ i.toNat = m := by
    intro o x n ho hn
    cases o with
    | none =>
      have hx := optM_none ho
      subst hx
      simp only [optNat, Option.some.injEq] at hn
      exact .inl ⟨rfl, hn.symm⟩
    | some q =>
      obtain ⟨b, hb, rfl⟩ := optM_some ho
      simp only [optNat, Option.map_eq_some_iff] at hn
      obtain ⟨m, hm, e⟩ := hn
      obtain ⟨k, i, _, hw, h0, hi⟩ := asNat_rv hm (xOf_rv hT hb)
      exact .inr ⟨q, m, rfl, e.symm, k, i, hw, h0, hi⟩
  rcases key lo lx l h1 h3 with ⟨rfl, rfl⟩ | ⟨q, m, rfl, rfl, k, i, hq, h0, hi'⟩ <;> rcases key hi hx h h2 h4 with ⟨rfl, rfl⟩ | ⟨q2, m2, rfl, rfl, k2, i2, hq2, h02, hi2⟩
  · simp [Instr.sliceBounds]
  · simp only [Option.getD_some] at hhl
    have := fun c => bound_run (P := P) (code := c) hq2 h02 hi2 (Nat.le_trans hhl hc) w
    cases b <;> simp [Instr.sliceBounds, this]
  · simp only [Option.getD_some, Option.getD_none] at hlh
    have := fun c => bound_run (P := P) (code := c) hq h0 hi' hlh w
    cases b <;> simp [Instr.sliceBounds, this]
  · simp only [Option.getD_some] at hlh hhl
    have e1 := fun c => bound_run (P := P) (code := c) hq2 h02 hi2 (Nat.le_trans hhl hc) w
    have e2 := fun c => bound_run (P := P) (code := c) hq h0 hi' hlh w
    cases b <;> simp [Instr.sliceBounds, e1, e2]

theorem add_ptr (b o n : Nat) : Addr.add ⟨b, o, none⟩ n = ⟨b, o + n, none⟩ := by
  unfold Addr.add
  split
  · rename_i h; subst h; rfl
  · rfl

theorem asli_rv {sz : Nat} (hsz : 0 < sz) {v w v2 : Value} {l h : Option Nat} (hr : RV μ A v w) (ha : asli sz v l h = some v2) :
    ∃ ad len cap, w = .slice ad len cap ∧ v = .slice (match v with | .slice x _ _ => x | _ => none) len (match v with | .slice _ _ m => m | _ => 0) ∧ len ≤ cap ∧ l.getD 0 ≤ h.getD len ∧ h.getD len ≤ len ∧
      RV μ A v2 (.slice (if cap = l.getD 0 then ad else ad.map (·.add (l.getD 0 * sz))) (h.getD len - l.getD 0) (cap - l.getD 0)) := by
  unfold asli at ha
  cases v with
  | slice x len m =>
    simp only at ha
    split at ha
    · rename_i hc
      obtain ⟨hc1, hc2, hc3⟩ := hc
      cases hr with
      | nilSl =>
        simp at ha
        subst ha
        simp at hc1 hc2
        refine ⟨none, 0, 0, rfl, rfl, Nat.le_refl _, by omega, by omega, ?_⟩
        have e1 : h.getD 0 - l.getD 0 = 0 := by omega
        have e2 : (0 : Nat) - l.getD 0 = 0 := by omega
        rw [e1, e2]
        split <;> exact .nilSl
      | slFull id off _ c s hA hl hs hz =>
        simp only [Option.some.injEq] at ha
        subst ha
        have hss : s = sz := by omega
        subst hss
        refine ⟨_, len, c, rfl, rfl, hl, hc1, hc2, ?_⟩
        by_cases e : c = l.getD 0
        · rw [if_pos e]
          have e1 : h.getD len - l.getD 0 = 0 := by omega
          have e2 : c - l.getD 0 = 0 := by omega
          rw [e1, e2]
          exact .slZ id _ _ _ hA (fun _ => by rw [hz, e])
        · rw [if_neg e, Option.map_some, add_ptr, Nat.add_assoc]
          refine .slFull id _ _ _ _ hA (by omega) hs ?_
          rw [hz, Nat.add_assoc, ← Nat.add_mul]
          congr 2
          omega
      | slAny id off _ c hA hl =>
        simp only [Option.some.injEq] at ha
        subst ha
        refine ⟨_, len, c, rfl, rfl, hl, hc1, hc2, ?_⟩
        by_cases e : c = l.getD 0
        · rw [if_pos e]
          have e1 : h.getD len - l.getD 0 = 0 := by omega
          have e2 : c - l.getD 0 = 0 := by omega
          rw [e1, e2]
          exact .slZ id _ _ _ hA (fun h2 => by omega)
        · rw [if_neg e, Option.map_some, add_ptr, Nat.add_assoc]
          exact .slAny id _ _ _ hA (by omega)
      | slZ id off _ ad hA hz =>
        simp only [Option.some.injEq] at ha
        subst ha
        refine ⟨_, 0, 0, rfl, rfl, Nat.le_refl _, hc1, hc2, ?_⟩
        have e0 : l.getD 0 = 0 := by omega
        have e1 : h.getD 0 - l.getD 0 = 0 := by omega
        rw [e1, e0, if_pos rfl]
        simp only [Nat.zero_mul, Nat.add_zero, Nat.sub_zero]
        exact .slZ id off m ad hA hz
    · cases ha
  | _ => simp at ha

theorem callOf_p {P : Program} {c : Call} {p : PO} (h : callOf P N c = some (.p p)) : ∃ b as, c.callee = .builtin b ∧ mapO (xOf N) c.args.toList = some as ∧
    ((b = .len ∧ ∃ ty e x, c.argTypes = #[ty] ∧ elemOf' P ty = some e ∧ as = [x] ∧ p = .len x) ∨
     (b = .max ∧ ∃ x y, as = [x, y] ∧ p = .max [x, y]) ∨ (b = .min ∧ ∃ x y, as = [x, y] ∧ p = .min [x, y])) := by
  unfold callOf at h
  split at h
  · cases h
  · rename_i as has
    split at h
    · cases h
    · simp only [Option.map_eq_some_iff] at h; obtain ⟨y, _, e⟩ := h; cases e
    · split at h
      · split at h
        · split at h
          · split at h <;> cases h
          · cases h
        · cases h
      · cases h
    · rename_i hc
      split at h
      · rename_i ty x ht
        simp only [Option.map_eq_some_iff] at h
        obtain ⟨e, he, e2⟩ := h
        injection e2 with e2
        exact ⟨_, _, hc, has, .inl ⟨rfl, ty, e, x, Array.ext' ht, he, rfl, e2.symm⟩⟩
      · cases h
    · rename_i hc
      split at h
      · rename_i x y _
        injection h with h; injection h with h
        exact ⟨_, _, hc, has, .inr (.inl ⟨rfl, x, y, rfl, h.symm⟩)⟩
      · cases h
    · rename_i hc
      split at h
      · rename_i x y _
        injection h with h; injection h with h
        exact ⟨_, _, hc, has, .inr (.inr ⟨rfl, x, y, rfl, h.symm⟩)⟩
      · cases h
    · split at h
      · split at h
        · split at h
          · split at h <;> cases h
          · cases h
        · cases h
      · cases h
    · cases h

theorem int2 {f : Int → Int → Int} {l : List Value} {v : Value} (h : aint2 f l = some v) : ∃ k i j, l = [.int k i, .int k j] ∧ v = .int k (f i j) := by
  unfold aint2 at h
  split at h
  · rename_i k i k' j
    split at h
    · rename_i hk; subst hk; injection h with h; exact ⟨k, i, j, rfl, h.symm⟩
    · cases h
  · cases h
theorem RL.two {v w : Value} {m : List Value} (h : RL μ A [v, w] m) : ∃ v' w', m = [v', w'] ∧ RV μ A v v' ∧ RV μ A w w' := by
  obtain ⟨v', r, rfl, h1, h2⟩ := h.inv
  obtain ⟨w', r', rfl, h3, h4⟩ := h2.inv
  have := h4.len
  cases r' with
  | nil => exact ⟨v', w', rfl, h1, h3⟩
  | cons _ _ => simp at this
theorem RL.one {v : Value} {m : List Value} (h : RL μ A [v] m) : ∃ v', m = [v'] ∧ RV μ A v v' := by
  obtain ⟨v', r, rfl, h1, h2⟩ := h.inv
  have := h2.len
  cases r with
  | nil => exact ⟨v', rfl, h1⟩
  | cons _ _ => simp at this

theorem max_run {P : Program} {ty : Array TypeId} {t0 : TypeId} {k : IntKind} {i j : Int} (w : World) : (Builtin.max_ ty t0 #[.int k i, .int k j]).run P w = .ok (.int k (max i j)) w := by
  have : (if j > i then j else i) = max i j := by omega
  simp [Builtin.max_, Builtin.max2, this]
theorem min_run {P : Program} {ty : Array TypeId} {t0 : TypeId} {k : IntKind} {i j : Int} (w : World) : (Builtin.min_ ty t0 #[.int k i, .int k j]).run P w = .ok (.int k (min i j)) w := by
  have : (if j < i then j else i) = min i j := by omega
  simp [Builtin.min_, Builtin.min2, this]

theorem build_run {P : Program} {ty : TypeId} {fs : Array Field} {z cs : List Value} {ps : Array (Nat × Operand)} {qs : List (Nat × Nat × X)} {pl : Array (Nat × Nat)}
    (hT : RT μ A N t a) (hz' : z.all flatB = true) (hu : undOf P ty = some (.struct fs)) (hz : zeroOf P ty = some z) (hp : evalP P (fs.mapM fun f => do pure (f.offset, ← sizeOf f.type)) = some pl)
    (hpl : ∀ (i : Nat) f n, fs[i]? = some f → szOf P f.type = some n → pl[i]? = some (f.offset, n))
    (hq : mapO (partOf P N fs) ps.toList = some qs) (h : afill z (qs.map fun p => (p.1, p.2.1, p.2.2.ev t)) = some cs) :
    Comes1 P μ A (do pure (.value (← Instr.build ty (ps.map fun (i, x) => (i, a.eval x))))) (.agg cs.toArray) := by
  obtain ⟨zv, hzv, hzr⟩ := zero_run hz
  have hlen : ∀ {l : List (Nat × Operand)} {qs : List (Nat × Nat × X)}, mapO (partOf P N fs) l = some qs → l.length = qs.length ∧ ∀ (i : Nat) p q, l[i]? = some p → qs[i]? = some q → partOf P N fs p = some q := by
    intro l
    induction l with
    | nil => intro qs h; simp only [mapO, Option.some.injEq] at h; subst h; exact ⟨rfl, fun i p q h => by simp at h⟩
    | cons x r ih =>
      intro qs h
      obtain ⟨b, bs, hb, hbs, rfl⟩ := mapO_cons h
      obtain ⟨h1, h2⟩ := ih hbs
      refine ⟨by simp [h1], fun i p q hp hq => ?_⟩
      cases i with
      | zero => simp at hp hq; subst hp; subst hq; exact hb
      | succ i => exact h2 i p q (by simpa using hp) (by simpa using hq)
  obtain ⟨h1, h2⟩ := hlen hq
  obtain ⟨ds', hf, hl⟩ := fill_rl (μ := μ) (A := A) (place := (pl[·]?)) (ps := (ps.map fun (i, x) => (i, a.eval x)).toList) (qs := qs.map fun p => (p.1, p.2.1, p.2.2.ev t)) (cs := z) (cs' := cs) (ds := zv.cells)
    (by simpa using h1) (fun i p q hp hq => by
      simp only [Array.toList_map, List.getElem?_map, Option.map_eq_some_iff] at hp hq
      obtain ⟨p0, hp0, rfl⟩ := hp
      obtain ⟨q0, hq0, rfl⟩ := hq
      have := h2 i p0 q0 hp0 hq0
      unfold partOf at this
      split at this
      · rename_i f hf
        split at this
        · rename_i n x hn hx
          injection this with this
          subst this
          exact ⟨hpl _ _ _ hf hn, xOf_rv hT hx⟩
        · cases this
      · cases this) (by rw [hzv]; exact RL.of_flat hz') h
  refine ⟨.agg ds', fun w => ?_, RV.agg_of' hl⟩
  have e : (Instr.build ty (ps.map fun (i, x) => (i, a.eval x))).run P w = .ok (.agg ds') w := by
    unfold Instr.build
    simp only [Sem.run_bind, hzr w, Result.andThen_ok, und_run hu w, run_of_evalP hp w, hf, Sem.run_pure]
  simp [e]

theorem aint_rv {op : BinOp} {k : IntKind} {i j : Int} {u : Value} (h : aint op k i j = some u) : RV μ A u u := by
  cases op <;> simp only [aint, Option.some.injEq] at h <;> first
    | cases h; done
    | (subst h; constructor; done)
    | (split at h
       · cases h
       · injection h with h; subst h; constructor)
theorem aar_run {P : Program} {op : BinOp} {ty : TypeId} {xo yo : Operand} {v w v' w' u : Value} (h : aar op v w = some u) (hv : RV μ A v v') (hw : RV μ A w w') :
    (∀ W, (do eqGuard op ty xo yo v' w'; binOp op ty v' w').run P W = .ok u W) ∧ RV μ A u u := by
  unfold aar at h
  split at h
  · rename_i k i k' j
    split at h
    · rename_i hk
      subst hk
      obtain rfl := hv.int_inv
      obtain rfl := hw.int_inv
      exact ⟨aint_run h, aint_rv h⟩
    · cases h
  · cases h
theorem eqGuard_any {op : BinOp} {ty : TypeId} {x y x' y' : Operand} {v w : Value} (h : notIf v = true) : eqGuard op ty x y v w = eqGuard op ty x' y' v w := by
  unfold eqGuard
  cases v <;> first
    | (simp [notIf] at h; done)
    | (cases w <;> rfl)
theorem aeq_run {P : Program} {neg : Bool} {ty : TypeId} {xo yo : Operand} {v w v' w' u : Value} (h : aeq P neg ty v w = some u) (hv : RV μ A v v') (hw : RV μ A w w') :
    (∀ W, (do eqGuard (eqOp neg) ty xo yo v' w'; binOp (eqOp neg) ty v' w').run P W = .ok u W) ∧ RV μ A u u := by
  unfold aeq at h
  split at h
  · rename_i k i k' j
    split at h
    · rename_i hk
      subst hk
      obtain rfl := hv.int_inv
      obtain rfl := hw.int_inv
      injection h with h
      subst h
      refine ⟨?_, .bool _⟩
      cases neg
      · exact aint_run (op := .eql) (by simp [aint])
      · exact aint_run (op := .neq) (by simp [aint])
    · cases h
  · simp only [Option.map_eq_some_iff] at h
    obtain ⟨b, hb, rfl⟩ := h
    unfold eqP at hb
    split at hb
    · rename_i hg
      simp only [Bool.and_eq_true] at hg
      split at hb
      · rename_i c he
        injection hb with hb
        subst hb
        rw [hv.ground_eq hg.1.1, hw.ground_eq hg.1.2]
        rw [eqGuard_any (x' := .tmp 0) (y' := .tmp 0) hg.2]
        exact ⟨run_of_evalP he, .bool _⟩
      · cases hb
    · cases hb

theorem placesOk_at {P : Program} {fs : Array Field} {pl : Array (Nat × Nat)} (h : placesOk P fs pl = true) (i : Nat) (f : Field) (n : Nat) (hf : fs[i]? = some f) (hn : szOf P f.type = some n) : pl[i]? = some (f.offset, n) := by
  unfold placesOk at h
  have := List.all_eq_true.1 h i (List.mem_range.2 (Array.getElem?_eq_some_iff.1 hf).1)
  rw [hf] at this
  simp only [hn] at this
  split at this
  · rename_i q hq
    simp only [Bool.and_eq_true, beq_iff_eq] at this
    rw [hq]
    congr 1
    exact Prod.ext this.1 this.2
  · cases this

theorem fieldPlace_run {P : Program} {f : Field} {n : Nat} (h : szOf P f.type = some n) (h0 : n ≠ 0) (ad : Addr) (w : World) : (fieldPlace ad f).run P w = .ok (ad.add f.offset) w := by
  simp [fieldPlace, sz_run h, h0]

set_option maxHeartbeats 1000000 in
theorem pop_sound {P : Program} {o : Oper} {p : PO} {v : Value} (hT : RT μ A N t a) (hc : opOf P N o = some (.p p)) (h : pop P t p = some v) : Comes1 P μ A (execOp a.eval o) v := by
  obtain ⟨dst, op, ty, pos, after, guard⟩ := o
  cases op <;> simp only [opOf] at hc
  case move x =>
    simp only [Option.map_eq_some_iff] at hc
    obtain ⟨y, hy, e⟩ := hc
    injection e with e; subst e
    simp only [pop, Option.some.injEq] at h
    subst h
    exact ⟨_, fun w => rfl, xOf_rv hT hy⟩
  case assign x =>
    simp only [Option.map_eq_some_iff] at hc
    obtain ⟨y, hy, e⟩ := hc
    injection e with e; subst e
    simp only [pop, Option.some.injEq] at h
    subst h
    exact ⟨_, fun w => rfl, xOf_rv hT hy⟩
  case pick c x y =>
    split at hc
    · rename_i c' x' y' h1 h2 h3
      injection hc with e; injection e with e; subst e
      simp only [pop] at h
      split at h
      · rename_i q hq
        have hr := xOf_rv hT h1
        rw [hq] at hr
        have hb := hr.bool_inv
        injection h with h
        subst h
        refine ⟨bif q then a.eval x else a.eval y, fun w => ?_, ?_⟩
        · simp only [execOp, hb, asBool]
          cases q <;> simp
        · cases q
          · exact xOf_rv hT h3
          · exact xOf_rv hT h2
      · cases h
    · cases hc
  case alloc e => split at hc <;> (try split at hc) <;> cases hc
  case box e x => simp only [Option.map_eq_some_iff] at hc; obtain ⟨y, _, e⟩ := hc; cases e
  case build ty' ps =>
    split at hc
    · rename_i fs z hu hz
      split at hc
      · rename_i pl hp
        split at hc
        · rename_i hok
          simp only [Option.map_eq_some_iff] at hc
          obtain ⟨qs, hq, e⟩ := hc
          injection e with e; subst e
          simp only [pop, Option.map_eq_some_iff] at h
          obtain ⟨cs, hcs, rfl⟩ := h
          exact build_run hT hok.2 hu hz hp (placesOk_at hok.1) hq hcs
        · cases hc
      · cases hc
    · cases hc
  case buildSlice ty' n ps =>
    split at hc
    · split at hc
      · split at hc
        · simp only [Option.map_eq_some_iff] at hc; obtain ⟨y, _, e⟩ := hc; cases e
        · cases hc
      · cases hc
    · cases hc
  case load ty' x => split at hc <;> cases hc
  case store ty' x y => split at hc <;> cases hc
  case nilCheck x =>
    simp only [Option.map_eq_some_iff] at hc
    obtain ⟨y, hy, e⟩ := hc
    injection e with e; subst e
    simp only [pop] at h
    split at h
    · rename_i ad hq
      have hr := xOf_rv hT hy
      rw [hq] at hr
      injection h with h
      subst h
      generalize hz : a.eval x = z at hr
      cases hr with
      | ptr id off hA => exact ⟨_, fun w => by simp [execOp, hz], .ptr id off hA⟩
    · cases h
  case binOp op ty' x y yt =>
    split at hc
    · rename_i x' y' hx hy
      split at hc
      · rename_i hn
        have hny : y = .const (.slice none 0 0) := by
          unfold isNil at hn
          split at hn
          · rfl
          · cases hn
        subst hny
        split at hc
        · rename_i e he
          injection hc with e; injection e with e; subst e
          simp only [pop] at h
          split at h
          · rename_i ad n c hq
            have hr := xOf_rv hT hx
            rw [hq] at hr
            injection h with h
            subst h
            have key : ∃ ad' n' c', a.eval x = .slice ad' n' c' ∧ ad'.isNone = ad.isNone := by
              generalize a.eval x = z at hr
              cases hr <;> exact ⟨_, _, _, rfl, rfl⟩
            obtain ⟨ad', n', c', hz, hi⟩ := key
            exact comes_sem (fun w => by have := eqn_run (elem_und he) x (.const (.slice none 0 0)) ad' n' c' false w; rw [hz]; exact this) (by rw [hi]; exact .bool _)
          · cases h
        · rename_i e he
          injection hc with e; injection e with e; subst e
          simp only [pop] at h
          split at h
          · rename_i ad n c hq
            have hr := xOf_rv hT hx
            rw [hq] at hr
            injection h with h
            subst h
            have key : ∃ ad' n' c', a.eval x = .slice ad' n' c' ∧ ad'.isNone = ad.isNone := by
              generalize a.eval x = z at hr
              cases hr <;> exact ⟨_, _, _, rfl, rfl⟩
            obtain ⟨ad', n', c', hz, hi⟩ := key
            exact comes_sem (fun w => by have := eqn_run (elem_und he) x (.const (.slice none 0 0)) ad' n' c' true w; rw [hz]; exact this) (by rw [hi]; exact .bool _)
          · cases h
        · cases hc
      · split at hc
        · injection hc with e; injection e with e; subst e
          simp only [pop] at h
          obtain ⟨h1, h2⟩ := aeq_run (xo := x) (yo := y) h (xOf_rv hT hx) (xOf_rv hT hy)
          exact comes_sem h1 h2
        · injection hc with e; injection e with e; subst e
          simp only [pop] at h
          obtain ⟨h1, h2⟩ := aeq_run (xo := x) (yo := y) h (xOf_rv hT hx) (xOf_rv hT hy)
          exact comes_sem h1 h2
        · injection hc with e; injection e with e; subst e
          simp only [pop] at h
          obtain ⟨h1, h2⟩ := aar_run h (xOf_rv hT hx) (xOf_rv hT hy)
          exact comes_sem h1 h2
    · cases hc
  case unOp op ty' x =>
    cases op <;> simp only at hc
    case not =>
      simp only [Option.map_eq_some_iff] at hc
      obtain ⟨y, hy, e⟩ := hc
      injection e with e; subst e
      simp only [pop] at h
      split at h
      · rename_i b hq
        have hr := xOf_rv hT hy
        rw [hq] at hr
        have hb := hr.bool_inv
        injection h with h
        subst h
        exact comes_sem (v' := .bool !b) (fun w => by simp [Op.unary, hb]) (.bool _)
      · cases h
    case neg =>
      simp only [Option.map_eq_some_iff] at hc
      obtain ⟨y, hy, e⟩ := hc
      injection e with e; subst e
      simp only [pop] at h
      split at h
      · rename_i k i hq
        have hr := xOf_rv hT hy
        rw [hq] at hr
        have hb := hr.int_inv
        injection h with h
        subst h
        exact comes_sem (v' := .int k (k.wrap (0 - i))) (fun w => by simp [Op.unary, Op.intArith, hb]) (.int _ _)
      · cases h
    all_goals cases hc
  case convert s d x =>
    split at hc
    · rename_i ds k hs hd
      simp only [Option.map_eq_some_iff] at hc
      obtain ⟨y, hy, e⟩ := hc
      injection e with e; subst e
      simp only [pop] at h
      split at h
      · rename_i k' i hq
        have hr := xOf_rv hT hy
        rw [hq] at hr
        have hb := hr.int_inv
        injection h with h
        subst h
        refine comes_sem (v' := .int k (k.wrap i)) (fun w => ?_) (.int _ _)
        rw [hb]
        unfold convert
        simp only [Sem.run_bind, und_run hs, und_run hd, Result.andThen_ok]
        cases ds <;> rfl
      · cases h
    · cases hc
  case makeSlice ty' l c =>
    split at hc
    · split at hc
      · split at hc
        · split at hc <;> cases hc
        · cases hc
      · cases hc
    · cases hc
  case slice ty' x lo hi mx =>
    cases mx with
    | some q => cases hc
    | none =>
      simp only at hc
      split at hc
      · rename_i e he
        split at hc
        · rename_i sz x' lx hx hs h1 h2 h3
          split at hc
          · rename_i hsz
            injection hc with e; injection e with e; subst e
            simp only [pop] at h
            split at h
            · rename_i l hh hl hhh
              obtain ⟨ad, len, cap, hw, hv, hlc, hlh, hhl, hr⟩ := asli_rv hsz (xOf_rv hT h1) h
              refine comes_sem (fun w => ?_) hr
              have hb := bounds_run (P := P) hT h2 h3 hl hhh hlc hlh hhl true w
              have hu := und_run (elem_und he) w
              rw [hw]
              simp only [Option.map_none, Instr.sliceAt, Sem.run_bind, hu, Result.andThen_ok, Instr.slice, hb, sz_run hs, Sem.run_pure]
            · cases h
          · cases hc
        · cases hc
      · cases hc
  case fieldAddr s x i =>
    split at hc
    · rename_i fs hu
      split at hc
      · rename_i f hf
        split at hc
        · rename_i n y hn hy
          split at hc
          · cases hc
          · rename_i h0
            injection hc with e; injection e with e; subst e
            simp only [pop] at h
            split at h
            · rename_i id off hq
              have hr := xOf_rv hT hy
              rw [hq] at hr
              injection h with h
              subst h
              generalize hz : a.eval x = z at hr
              cases hr with
              | ptr _ _ hA =>
                refine comes_sem (v' := .pointer (some ⟨(μ id).blk, (μ id).off + (off + f.offset), none⟩)) (fun w => ?_) (.ptr id _ hA)
                simp [hz, Instr.fieldAt, und_run hu, hf, Instr.sureAddr, fieldPlace_run hn h0, add_ptr, Nat.add_assoc]
            · cases h
        · cases hc
      · cases hc
    · cases hc
  case field s x i =>
    split at hc
    · rename_i fs hu
      split at hc
      · rename_i f hf
        split at hc
        · rename_i n y hn hy
          injection hc with e; injection e with e; subst e
          simp only [pop] at h
          split at h
          · rename_i cs hq
            have hr := xOf_rv hT hy
            rw [hq] at hr
            obtain ⟨ds, hz, hl⟩ := hr.agg_inv
            have key : ∃ v', partA n ds f.offset = some v' ∧ RV μ A v v' := by
              cases n with
              | some k =>
                simp only [partA, Option.some.injEq] at h
                subst h
                refine ⟨_, rfl, RV.agg_of' ?_⟩
                have := (hl.drop f.offset).take k
                simpa [Array.toList_extract, List.extract_eq_take_drop] using this
              | none =>
                obtain ⟨v', hv', hr'⟩ := hl.get (i := f.offset) (v := v) (by simpa [partA] using h)
                exact ⟨v', by simpa [partA] using hv', hr'⟩
            obtain ⟨v', hv', hr'⟩ := key
            refine comes_sem (fun w => ?_) hr'
            simp [hz, Instr.field, und_run hu, hf, asAgg, part_run hn _ _ hv']
          · cases h
        · cases hc
      · cases hc
    · cases hc
  case indexAddr ty' x i =>
    split at hc
    · rename_i e he
      split at hc
      · rename_i sz x' i' hs hx hi
        injection hc with e; injection e with e; subst e
        simp only [pop] at h
        split at h
        · rename_i id off len m k hq hk
          split at h
          · rename_i hlt
            injection h with h
            subst h
            have hr := xOf_rv hT hx
            rw [hq] at hr
            obtain ⟨ki, ii, _, hw, h0, hki⟩ := asNat_rv hk (xOf_rv hT hi)
            have hil : ii < (len : Int) := by omega
            have key : ∀ c, a.eval x = .slice (some ⟨(μ id).blk, (μ id).off + off, none⟩) len c → A id → Comes1 P μ A (do pure (.value (← Instr.indexAt ty' (a.eval x) (a.eval i)))) (.pointer (some ⟨id, off + k * sz, none⟩)) := by
              intro c hz hA
              refine comes_sem (v' := .pointer (some ⟨(μ id).blk, (μ id).off + (off + k * sz), none⟩)) (fun w => ?_) (.ptr id _ hA)
              rw [hz, hw]
              unfold Instr.indexAt
              simp only [asIntOf, Sem.run_bind, Sem.run_pure, Result.andThen_ok, und_run (elem_und he)]
              simp [h0, hil, sz_run hs, add_ptr, hki, Nat.add_assoc]
            generalize hz : a.eval x = z at hr
            cases hr with
            | slFull _ _ _ c _ hA _ _ _ => have := key c (by rw [hz]) hA; rw [hz] at this; simpa [execOp, hz] using this
            | slAny _ _ _ c hA _ => have := key c (by rw [hz]) hA; rw [hz] at this; simpa [execOp, hz] using this
            | slZ _ _ _ _ _ _ => omega
          · cases h
        · cases h
      · cases hc
    · cases hc
  case extract x i =>
    simp only [Option.map_eq_some_iff] at hc
    obtain ⟨y, hy, e⟩ := hc
    injection e with e; subst e
    simp only [pop] at h
    split at h
    · rename_i vs hq
      have hr := xOf_rv hT hy
      rw [hq] at hr
      obtain ⟨ws, hz, hl⟩ := hr.tup_inv
      obtain ⟨v', hv', hr'⟩ := hl.get (i := i) (v := v) (by simpa using h)
      have hv2 : ws[i]? = some v' := by simpa using hv'
      exact comes_sem (fun w => by simp [hz, Instr.extract, hv2]) hr'
    · cases h
  case makeFunc fn first cap =>
    cases fn <;> simp only at hc <;> try cases hc
    split at hc
    · rename_i l m h1 h2
      injection hc with e; injection e with e; subst e
      simp only [pop, Option.some.injEq] at h
      subst h
      have r1 := mapO_rl hT h1
      have r2 := mapO_rl hT h2
      rename_i g _ _
      refine comes_sem (v' := .func (.func g) (first.map a.eval) (cap.map a.eval)) (fun w => by simp [Instr.makeFunc]) ?_
      have := RV.fn_of (.func g) r1 r2
      rw [← Array.toList_map, ← Array.toList_map] at this
      exact this
    · cases hc
  case call c =>
    obtain ⟨b, as, hcal, has, hb⟩ := callOf_p hc
    have hl := mapO_rl hT has
    have hargs : (c.args.map a.eval).toList = c.args.toList.map a.eval := Array.toList_map
    rcases hb with ⟨rfl, ty', e, x, hty, he, rfl, rfl⟩ | ⟨rfl, x, y, rfl, rfl⟩ | ⟨rfl, x, y, rfl, rfl⟩
    · obtain ⟨v', hv', hr⟩ := RL.one hl
      have hr : RV μ A (x.ev t) v' := hr
      have ha' : c.args.map a.eval = #[v'] := Array.ext' (by rw [hargs, hv'])
      simp only [pop] at h
      split at h
      · rename_i ad n m hq
        rw [hq] at hr
        injection h with h
        subst h
        have key : ∃ ad' c', v' = .slice ad' n c' := by
          cases hr <;> exact ⟨_, _, rfl⟩
        obtain ⟨ad', c', rfl⟩ := key
        refine ⟨.int .i64 n, fun w => ?_, .int _ _⟩
        simp [execOp, resolve, hcal, ha', hty, invoke, builtin, Builtin.len_, und_run (elem_und he), goInt]
      · cases h
    · obtain ⟨v', w', hv', hr1, hr2⟩ := RL.two hl
      have hr1 : RV μ A (x.ev t) v' := hr1
      have hr2 : RV μ A (y.ev t) w' := hr2
      have ha' : c.args.map a.eval = #[v', w'] := Array.ext' (by rw [hargs, hv'])
      simp only [pop] at h
      obtain ⟨k, i, j, hij, rfl⟩ := int2 h
      simp only [evs, List.map_cons, List.map_nil, List.cons.injEq, and_true] at hij
      rw [hij.1] at hr1
      rw [hij.2] at hr2
      obtain rfl := hr1.int_inv
      obtain rfl := hr2.int_inv
      refine ⟨.int k (max i j), fun w => ?_, .int _ _⟩
      simp [execOp, resolve, hcal, ha', invoke, builtin, max_run]
    · obtain ⟨v', w', hv', hr1, hr2⟩ := RL.two hl
      have hr1 : RV μ A (x.ev t) v' := hr1
      have hr2 : RV μ A (y.ev t) w' := hr2
      have ha' : c.args.map a.eval = #[v', w'] := Array.ext' (by rw [hargs, hv'])
      simp only [pop] at h
      obtain ⟨k, i, j, hij, rfl⟩ := int2 h
      simp only [evs, List.map_cons, List.map_nil, List.cons.injEq, and_true] at hij
      rw [hij.1] at hr1
      rw [hij.2] at hr2
      obtain rfl := hr1.int_inv
      obtain rfl := hr2.int_inv
      refine ⟨.int k (min i j), fun w => ?_, .int _ _⟩
      simp [execOp, resolve, hcal, ha', invoke, builtin, min_run]
  all_goals cases hc
end
end Go.Proofs.Ytcofdkcccggmjaa.Am
