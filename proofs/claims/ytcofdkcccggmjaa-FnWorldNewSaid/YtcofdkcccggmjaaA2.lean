/- How the abstract machine's values lie in the model's memory; what looks at no memory comes to the same. -/
import Derived.Test.YtcofdkcccggmjaaA1
import Derived.Tactics
import Derived.Below
namespace Go.Proofs.Ytcofdkcccggmjaa.Am
open Go

/-- Where a row lies: its block, its first cell there, how many cells the block has from there on. -/
structure Loc where
  blk : Nat
  off : Nat
  size : Nat

inductive RV (μ : Nat → Loc) (A : Nat → Prop) : Value → Value → Prop
  | bool (b : Bool) : RV μ A (.bool b) (.bool b)
  | int (k : IntKind) (n : Int) : RV μ A (.int k n) (.int k n)
  | str (s : ByteArray) : RV μ A (.string s) (.string s)
  | nilPtr : RV μ A (.pointer none) (.pointer none)
  | nilSl : RV μ A (.slice none 0 0) (.slice none 0 0)
  | nilFn : RV μ A .nilFunc .nilFunc
  | nilIf : RV μ A .nilIface .nilIface
  | junk (w : Value) : RV μ A (.chan none) w
  | ptr (id off : Nat) (h : A id) : RV μ A (.pointer (some ⟨id, off, none⟩)) (.pointer (some ⟨(μ id).blk, (μ id).off + off, none⟩))
  | slFull (id off len c s : Nat) (h : A id) (hl : len ≤ c) (hs : 0 < s) (hz : (μ id).size = off + c * s) :
      RV μ A (.slice (some ⟨id, off, none⟩) len (s + 2)) (.slice (some ⟨(μ id).blk, (μ id).off + off, none⟩) len c)
  | slAny (id off len c : Nat) (h : A id) (hl : len ≤ c) :
      RV μ A (.slice (some ⟨id, off, none⟩) len 0) (.slice (some ⟨(μ id).blk, (μ id).off + off, none⟩) len c)
  | slZ (id off m : Nat) (ad : Addr) (h : A id) (hz : 2 ≤ m → (μ id).size = off) : RV μ A (.slice (some ⟨id, off, none⟩) 0 m) (.slice (some ad) 0 0)
  | agg (cs ds : Array Value) (hs : cs.size = ds.size) (h : ∀ (i : Nat) (v w : Value), cs[i]? = some v → ds[i]? = some w → RV μ A v w) : RV μ A (.agg cs) (.agg ds)
  | tup (cs ds : Array Value) (hs : cs.size = ds.size) (h : ∀ (i : Nat) (v w : Value), cs[i]? = some v → ds[i]? = some w → RV μ A v w) : RV μ A (.tuple cs) (.tuple ds)
  | fn (f : Fn) (as bs cs ds : Array Value) (hs : as.size = bs.size) (h : ∀ (i : Nat) (v w : Value), as[i]? = some v → bs[i]? = some w → RV μ A v w)
      (ht : cs.size = ds.size) (k : ∀ (i : Nat) (v w : Value), cs[i]? = some v → ds[i]? = some w → RV μ A v w) : RV μ A (.func f as cs) (.func f bs ds)

theorem RV.mono {μ ν : Nat → Loc} {A B : Nat → Prop} (hAB : ∀ i, A i → B i) (hm : ∀ i, A i → ν i = μ i) {v w : Value} (h : RV μ A v w) : RV ν B v w := by
  induction h with
  | bool b => exact .bool b
  | int k n => exact .int k n
  | str s => exact .str s
  | nilPtr => exact .nilPtr
  | nilSl => exact .nilSl
  | nilFn => exact .nilFn
  | nilIf => exact .nilIf
  | junk w => exact .junk w
  | ptr id off h => rw [← hm id h]; exact .ptr id off (hAB _ h)
  | slFull id off len c s h hl hs hz => rw [← hm id h]; exact .slFull id off len c s (hAB _ h) hl hs (by rw [hm id h]; exact hz)
  | slAny id off len c h hl => rw [← hm id h]; exact .slAny id off len c (hAB _ h) hl
  | slZ id off m ad h hz => exact .slZ id off m ad (hAB _ h) (by rw [hm id h]; exact hz)
  | agg cs ds hs _ ih => exact .agg cs ds hs ih
  | tup cs ds hs _ ih => exact .tup cs ds hs ih
  | fn f as bs cs ds hs _ ht _ ih ik => exact .fn f as bs cs ds hs ih ht ik

/-- Lists of values, one by one. -/
structure RL (μ : Nat → Loc) (A : Nat → Prop) (l m : List Value) : Prop where
  len : l.length = m.length
  at_ : ∀ (i : Nat) (v w : Value), l[i]? = some v → m[i]? = some w → RV μ A v w

section
variable {μ : Nat → Loc} {A : Nat → Prop}
theorem RL.nil : RL μ A [] [] := ⟨rfl, fun i v w h => by simp at h⟩
theorem RL.cons {v w : Value} {l m : List Value} (h : RV μ A v w) (t : RL μ A l m) : RL μ A (v :: l) (w :: m) := by
  refine ⟨by simp [t.len], fun i a b ha hb => ?_⟩
  cases i with
  | zero => simp at ha hb; subst ha; subst hb; exact h
  | succ i => exact t.at_ i a b (by simpa using ha) (by simpa using hb)
theorem RL.inv {v : Value} {l m : List Value} (h : RL μ A (v :: l) m) : ∃ w r, m = w :: r ∧ RV μ A v w ∧ RL μ A l r := by
  cases m with
  | nil => have := h.len; simp at this
  | cons w r => exact ⟨w, r, rfl, h.at_ 0 v w rfl rfl, ⟨by have := h.len; simpa using this, fun i a b ha hb => h.at_ (i + 1) a b (by simpa using ha) (by simpa using hb)⟩⟩
theorem RL.get {l m : List Value} (h : RL μ A l m) {i : Nat} {v : Value} (hv : l[i]? = some v) : ∃ w, m[i]? = some w ∧ RV μ A v w := by
  have hi : i < m.length := by rw [← h.len]; exact (List.getElem?_eq_some_iff.1 hv).1
  exact ⟨m[i], List.getElem?_eq_getElem hi, h.at_ i _ _ hv (List.getElem?_eq_getElem hi)⟩
theorem RL.append {l m l' m' : List Value} (h : RL μ A l m) (k : RL μ A l' m') : RL μ A (l ++ l') (m ++ m') := by
  refine ⟨by simp [h.len, k.len], fun i v w hv hw => ?_⟩
  rw [List.getElem?_append] at hv hw
  rw [← h.len] at hw
  split at hv
  · rename_i hi; rw [if_pos hi] at hw; exact h.at_ i v w hv hw
  · rename_i hi; rw [if_neg hi] at hw; exact k.at_ _ v w hv hw
theorem RL.take {l m : List Value} (h : RL μ A l m) (n : Nat) : RL μ A (l.take n) (m.take n) := by
  refine ⟨by simp [h.len], fun i v w hv hw => ?_⟩
  rw [List.getElem?_take] at hv hw
  split at hv
  · rename_i hi; rw [if_pos hi] at hw; exact h.at_ i v w hv hw
  · cases hv
theorem RL.drop {l m : List Value} (h : RL μ A l m) (n : Nat) : RL μ A (l.drop n) (m.drop n) := by
  refine ⟨by simp [h.len], fun i v w hv hw => ?_⟩
  rw [List.getElem?_drop] at hv hw
  exact h.at_ _ v w hv hw
theorem RL.splice {l m vs ws : List Value} (h : RL μ A l m) (off : Nat) (k : RL μ A vs ws) : RL μ A (splice l off vs) (splice m off ws) := by
  unfold Am.splice
  rw [k.len]
  exact ((h.take off).append k).append (h.drop _)
theorem RL.mono {ν : Nat → Loc} {B : Nat → Prop} (hAB : ∀ i, A i → B i) (hm : ∀ i, A i → ν i = μ i) {l m : List Value} (h : RL μ A l m) : RL ν B l m :=
  ⟨h.len, fun i v w hv hw => (h.at_ i v w hv hw).mono hAB hm⟩

theorem RV.of_flat {v : Value} (h : flatB v = true) : RV μ A v v := by
  unfold flatB at h
  split at h <;> first | constructor | cases h
theorem RL.of_flat {l : List Value} (h : l.all flatB = true) : RL μ A l l := by
  refine ⟨rfl, fun i v w hv hw => ?_⟩
  rw [hv] at hw
  injection hw with hw
  subst hw
  exact .of_flat (List.all_eq_true.1 h v (List.mem_of_getElem? hv))
theorem RV.flat_eq {v w : Value} (hf : flatB v = true) (h : RV μ A v w) : w = v := by
  cases h <;> first | rfl | (simp [flatB] at hf)
theorem RL.flat_eq {l m : List Value} (hf : l.all flatB = true) (h : RL μ A l m) : m = l := by
  apply List.ext_getElem?
  intro i
  by_cases hi : i < l.length
  · obtain ⟨w, hw, hr⟩ := h.get (List.getElem?_eq_getElem hi)
    have hm : flatB l[i] = true := List.all_eq_true.1 hf _ (List.getElem_mem hi)
    rw [hw, List.getElem?_eq_getElem hi, hr.flat_eq hm]
  · rw [List.getElem?_eq_none (l := m) (by rw [← h.len]; omega), List.getElem?_eq_none (l := l) (by omega)]
theorem RV.agg_inv {cs : Array Value} {w : Value} (h : RV μ A (.agg cs) w) : ∃ ds, w = .agg ds ∧ RL μ A cs.toList ds.toList := by
  cases h with
  | agg _ ds hs h => exact ⟨ds, rfl, by simpa using hs, fun i v w hv hw => h i v w (by simpa using hv) (by simpa using hw)⟩
theorem RV.agg_of {l m : List Value} (h : RL μ A l m) : RV μ A (.agg l.toArray) (.agg m.toArray) :=
  .agg _ _ (by simpa using h.len) fun i v w hv hw => h.at_ i v w (by simpa using hv) (by simpa using hw)
theorem RV.agg_of' {l m : Array Value} (h : RL μ A l.toList m.toList) : RV μ A (.agg l) (.agg m) := RV.agg_of h
theorem RV.tup_inv {cs : Array Value} {w : Value} (h : RV μ A (.tuple cs) w) : ∃ ds, w = .tuple ds ∧ RL μ A cs.toList ds.toList := by
  cases h with
  | tup _ ds hs h => exact ⟨ds, rfl, by simpa using hs, fun i v w hv hw => h i v w (by simpa using hv) (by simpa using hw)⟩
theorem RV.tup_of {l m : List Value} (h : RL μ A l m) : RV μ A (.tuple l.toArray) (.tuple m.toArray) :=
  .tup _ _ (by simpa using h.len) fun i v w hv hw => h.at_ i v w (by simpa using hv) (by simpa using hw)
theorem RV.fn_inv {f : Fn} {as cs : Array Value} {w : Value} (h : RV μ A (.func f as cs) w) : ∃ bs ds, w = .func f bs ds ∧ RL μ A as.toList bs.toList ∧ RL μ A cs.toList ds.toList := by
  cases h with
  | fn _ _ bs _ ds hs h ht k => exact ⟨bs, ds, rfl, ⟨by simpa using hs, fun i v w hv hw => h i v w (by simpa using hv) (by simpa using hw)⟩, by simpa using ht, fun i v w hv hw => k i v w (by simpa using hv) (by simpa using hw)⟩
theorem RV.fn_of (f : Fn) {l m p q : List Value} (h : RL μ A l m) (k : RL μ A p q) : RV μ A (.func f l.toArray p.toArray) (.func f m.toArray q.toArray) :=
  .fn f _ _ _ _ (by simpa using h.len) (fun i v w hv hw => h.at_ i v w (by simpa using hv) (by simpa using hw)) (by simpa using k.len) fun i v w hv hw => k.at_ i v w (by simpa using hv) (by simpa using hw)
theorem RV.cells {v w : Value} (h : RV μ A v w) (h1 : v.cells.toList.all one1 = true) : RL μ A v.cells.toList w.cells.toList := by
  cases v with
  | agg cs => obtain ⟨ds, rfl, hl⟩ := h.agg_inv; exact hl
  | chan r => cases r <;> simp [Value.cells, one1] at h1
  | _ => cases h <;> exact RL.cons (by constructor <;> assumption) RL.nil
theorem RV.restrict {ν : Nat → Loc} {B : Nat → Prop} {v w : Value} (h : RV μ A v w) : ∀ {u : Value}, RV ν B v u → RV μ B v w := by
  induction h with
  | bool b => intro u k; exact .bool b
  | int k n => intro u k; exact .int _ _
  | str s => intro u k; exact .str s
  | nilPtr => intro u k; exact .nilPtr
  | nilSl => intro u k; exact .nilSl
  | nilFn => intro u k; exact .nilFn
  | nilIf => intro u k; exact .nilIf
  | junk w => intro u k; exact .junk w
  | ptr id off h => intro u k; cases k with | ptr _ _ h2 => exact .ptr id off h2
  | slFull id off len c s h hl hs hz =>
    intro u k
    cases k with
    | slFull _ _ _ _ _ h2 => exact .slFull id off len c s h2 hl hs hz
    | slZ _ _ _ _ h2 _ => exact .slFull id off 0 c s h2 hl hs hz
  | slAny id off len c h hl =>
    intro u k
    cases k with
    | slAny _ _ _ _ h2 => exact .slAny id off len c h2 hl
    | slZ _ _ _ _ h2 _ => exact .slAny id off 0 c h2 hl
  | slZ id off m ad h hz =>
    intro u k
    cases k with
    | slFull _ _ _ _ _ h2 => exact .slZ id off _ ad h2 hz
    | slAny _ _ _ _ h2 => exact .slZ id off _ ad h2 hz
    | slZ _ _ _ _ h2 _ => exact .slZ id off m ad h2 hz
  | agg cs ds hs h ih =>
    intro u k
    cases k with
    | agg _ es hs2 h2 =>
      refine .agg cs ds hs fun i v w hv hw => ?_
      have hi : i < cs.size := (Array.getElem?_eq_some_iff.1 hv).1
      exact ih i v w hv hw (h2 i v _ hv (Array.getElem?_eq_getElem (by omega)))
  | tup cs ds hs h ih =>
    intro u k
    cases k with
    | tup _ es hs2 h2 =>
      refine .tup cs ds hs fun i v w hv hw => ?_
      have hi : i < cs.size := (Array.getElem?_eq_some_iff.1 hv).1
      exact ih i v w hv hw (h2 i v _ hv (Array.getElem?_eq_getElem (by omega)))
  | fn f as bs cs ds hs h ht k ih ik =>
    intro u k
    cases k with
    | fn _ _ es _ gs hs2 h2 ht2 k2 =>
      refine .fn f as bs cs ds hs (fun i v w hv hw => ?_) ht (fun i v w hv hw => ?_)
      · have hi : i < as.size := (Array.getElem?_eq_some_iff.1 hv).1
        exact ih i v w hv hw (h2 i v _ hv (Array.getElem?_eq_getElem (by omega)))
      · have hi : i < cs.size := (Array.getElem?_eq_some_iff.1 hv).1
        exact ik i v w hv hw (k2 i v _ hv (Array.getElem?_eq_getElem (by omega)))
theorem RV.ground_eq {v w : Value} (hg : groundB v = true) (h : RV μ A v w) : w = v := by
  cases v with
  | agg cs =>
    obtain ⟨ds, rfl, hl⟩ := h.agg_inv
    have := hl.flat_eq (by simpa [groundB] using hg)
    exact congrArg Value.agg (Array.ext' this)
  | _ => exact h.flat_eq hg
theorem RV.undef : RV μ A undef undef := .tup #[] #[] rfl (fun i v w h => by simp at h)
end

/-! ### Programs that ask the program alone -/
theorem run_of_evalP {α : Type} {P : Program} : ∀ {s : Sem α} {a : α}, evalP P s = some a → ∀ w, s.run P w = .ok a w
  | .pure _, _, h, _ => by simp only [evalP, Option.some.injEq] at h; subst h; rfl
  | .program k, _, h, w => run_of_evalP (s := k P) h w
  | .load .., _, h, _ | .store .., _, h, _ | .new .., _, h, _ | .shape .., _, h, _ | .freeze .., _, h, _ | .frozen .., _, h, _ | .getObj .., _, h, _
  | .setObj .., _, h, _ | .choose .., _, h, _ | .sys .., _, h, _ | .mark .., _, h, _ | .halt .., _, h, _ => by cases h

section
variable {P : Program} {t : TypeId}
theorem und_run {d : TypeDesc} (h : undOf P t = some d) (w : World) : (underlying t).run P w = .ok d w := run_of_evalP h w
theorem und_eq {d : TypeDesc} (h : undOf P t = some d) : P.underlying t = some d := by
  unfold undOf underlying at h
  cases hu : P.underlying t with
  | none => simp only [bind, Sem.bind, program, evalP, hu, stuck] at h; cases h
  | some x => simp only [bind, Sem.bind, program, evalP, hu, pure, Option.some.injEq] at h; rw [h]
theorem elem_und {e : TypeId} (h : elemOf' P t = some e) : undOf P t = some (.slice e) := by
  unfold elemOf' at h
  split at h
  · rename_i e' he; injection h with h; subst h; exact he
  · cases h
theorem sz_run {n : Nat} (h : szOf P t = some n) (w : World) : (sizeOf t).run P w = .ok n w := run_of_evalP h w
theorem info_eq {i : TypeInfo} (h : evalP P (typeInfo t) = some i) : P.info? t = some i := by
  unfold typeInfo at h
  cases hu : P.info? t with
  | none => simp only [bind, Sem.bind, program, evalP, hu, stuck] at h; cases h
  | some x => simp only [bind, Sem.bind, program, evalP, hu, pure, Option.some.injEq] at h; rw [h]
theorem info_of_sz {n : Nat} (h : szOf P t = some n) : ∃ i, P.info? t = some i ∧ i.size = n := by
  unfold szOf sizeOf typeInfo at h
  cases hu : P.info? t with
  | none => simp only [bind, Sem.bind, program, evalP, hu, stuck] at h; cases h
  | some x => simp only [bind, Sem.bind, program, evalP, hu, pure, Option.some.injEq] at h; exact ⟨x, rfl, h⟩
theorem info_of_zero {z : List Value} (h : zeroOf P t = some z) : ∃ i v, P.info? t = some i ∧ i.zero = some v ∧ v.cells.toList = z := by
  unfold zeroOf zeroValue typeInfo at h
  cases hu : P.info? t with
  | none => simp only [bind, Sem.bind, program, evalP, hu, stuck] at h; cases h
  | some x =>
    cases hz : x.zero with
    | none => simp only [bind, Sem.bind, program, evalP, hu, pure, hz, unsupported] at h; cases h
    | some v => simp only [bind, Sem.bind, program, evalP, hu, pure, hz, Option.map_some, Option.some.injEq] at h; exact ⟨x, v, rfl, hz, h⟩
theorem zero_run {z : List Value} (h : zeroOf P t = some z) : ∃ v, v.cells.toList = z ∧ ∀ w, (zeroValue t).run P w = .ok v w := by
  unfold zeroOf at h
  rw [Option.map_eq_some_iff] at h
  obtain ⟨v, hv, e⟩ := h
  exact ⟨v, e, run_of_evalP hv⟩
end
end Go.Proofs.Ytcofdkcccggmjaa.Am
