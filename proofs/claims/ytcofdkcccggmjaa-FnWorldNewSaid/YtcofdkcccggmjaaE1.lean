/- Evaluation: an executor that simp can run, over a heap told as what was there and a list of what was made. -/
import Derived.Test.YtcofdkcccggmjaaE0
namespace Go.Proofs.Ytcofdkcccggmjaa.Am
open Go

def goodC : AC → Bool
  | .draw ops => cmpOk ops && ascAll ops
  | .seq a b | .ite _ a b => goodC a && goodC b
  | .blk _ b | .loop b => goodC b
  | _ => true

section
variable (P : Program)
noncomputable def xq (cf : CF) (ag : AG) : AC → St → Option (Ex × St)
  | .nop, s => some (.nm, s)
  | .reg ops, s => (steps P cf ops s).map fun s' => (.nm, s')
  | .draw ops, s => (dsqAll P cf ops s).map fun s' => (.nm, s')
  | .seq a b, s => match xq cf ag a s with
    | some (.nm, s') => xq cf ag b s'
    | r => r
  | .ite c a b, s => match c.ev s.t with
    | .bool q => bif q then xq cf ag a s else xq cf ag b s
    | _ => none
  | .blk id b, s => match xq cf ag b s with
    | some (.ex i, s') => if i = id then some (.nm, s') else some (.ex i, s')
    | r => r
  | .loop b, s => ag b s
  | .exit id, s => some (.ex id, s)
  | .ret, s => some (.rt, s)
end

section
variable {P : Program} {F : FuncId → Option AFn}
theorem exec_of_xq : ∀ {c : AC} {s : St} {r : Ex × St}, goodC c = true → xq P (call P F) (loop P F) c s = some r → exec P (call P F) (loop P F) c s = some r
  | .nop, s, r, _, h => h
  | .reg ops, s, r, _, h => h
  | .draw ops, s, r, g, h => by
    simp only [xq, Option.map_eq_some_iff] at h
    obtain ⟨s', h, rfl⟩ := h
    exact exec_draw g h
  | .seq a b, s, r, g, h => by
    simp only [goodC, Bool.and_eq_true] at g
    simp only [xq] at h
    simp only [exec]
    cases ha : xq P (call P F) (loop P F) a s with
    | none => rw [ha] at h; cases h
    | some x =>
      obtain ⟨e, s'⟩ := x
      rw [exec_of_xq g.1 ha]
      rw [ha] at h
      cases e with
      | nm => exact exec_of_xq g.2 h
      | _ => exact h
  | .ite c a b, s, r, g, h => by
    simp only [goodC, Bool.and_eq_true] at g
    simp only [xq] at h
    simp only [exec]
    split at h
    · rename_i q hq
      rw [hq]
      cases q
      · exact exec_of_xq g.2 h
      · exact exec_of_xq g.1 h
    · cases h
  | .blk id b, s, r, g, h => by
    simp only [goodC] at g
    simp only [xq] at h
    simp only [exec]
    cases ha : xq P (call P F) (loop P F) b s with
    | none => rw [ha] at h; cases h
    | some x => rw [exec_of_xq g ha]; rw [ha] at h; exact h
  | .loop b, s, r, g, h => by
    rw [exec_loop]; exact h
  | .exit id, s, r, _, h => h
  | .ret, s, r, _, h => h

theorem call_of_xq {f : FuncId} {n : Nat} {res : List Rs} {gc : Bool} {c : AC} {as : List Value} {H : Hp} {v : Value × Hp} (hf : F f = some ⟨n, res, gc, c⟩) (hg : goodC c = true) (hl : as.length ≤ n)
    (h : finish ⟨n, res, gc, c⟩ H (xq P (call P F) (loop P F) c ⟨init as, H⟩) = some v) : call P F f as H = some v := by
  rw [call_eq]
  unfold body
  rw [hf]
  simp only
  rw [if_pos hl]
  cases hx : xq P (call P F) (loop P F) c ⟨init as, H⟩ with
  | none => rw [hx] at h; cases h
  | some r => rw [exec_of_xq hg hx]; rw [hx] at h; exact h
/-- Once round, and on. -/
theorem loop_go {b : AC} {s s' : St} {r : Option (Ex × St)} (hg : goodC b = true) (h : xq P (call P F) (loop P F) b s = some (.nm, s')) (h2 : loop P F b s' = r) : loop P F b s = r := by
  rw [loop_eq, exec_of_xq hg h]
  exact h2
/-- Out of a loop. -/
theorem loop_out {b : AC} {s s' : St} {e : Ex} (hg : goodC b = true) (h : xq P (call P F) (loop P F) b s = some (e, s')) (he : e ≠ .nm) : loop P F b s = some (e, s') := by
  rw [loop_eq, exec_of_xq hg h]
  cases e with
  | nm => exact absurd rfl he
  | _ => rfl
end

/-! ### The heap: what was there, and what was made -/
def ad (H : Hp) (i : Nat) : Nat := H.next + i
def Hl (H : Hp) (l : List (Option Ob)) : Hp := ⟨H.next + l.length, fun id => if H.next ≤ id ∧ id < H.next + l.length then
(l[id - H.next]?).join else H.get id⟩

theorem Hl_nil (H : Hp) : Hl H [] = H := Hp.ext' rfl fun i => by simp [Hl]; omega
theorem Hl_next (H : Hp) (l : List (Option Ob)) : (Hl H l).next = ad H l.length := rfl
theorem ad_zero (H : Hp) : ad H 0 = H.next := rfl
theorem Hl_at {H : Hp} {l : List (Option Ob)} {i : Nat} {o : Ob} (h : l[i]? = some (some o)) : (Hl H l).get (ad H i) = some o := by
  have hi := (List.getElem?_eq_some_iff.1 h).1
  simp only [Hl, ad]
  rw [if_pos ⟨by omega, by omega⟩, show H.next + i - H.next = i by omega, h]; rfl
theorem Hl_old {H : Hp} {l : List (Option Ob)} {id : Nat} (h : id < H.next) : (Hl H l).get id = H.get id := if_neg (by omega)
theorem Hl_addO (H : Hp) (l : List (Option Ob)) (o : Option Ob) : (Hl H l).addO o = Hl H (l ++ [o]) := by
  apply Hp.ext'
  · rw [addO_next]; simp only [Hl, List.length_append, List.length_singleton]; omega
  · intro i
    have e : ((Hl H l).addO o).get i = if i = H.next + l.length then o else (Hl H l).get i := by
      cases o with
      | none => rfl
      | some o => rfl
    rw [e]
    simp only [Hl, List.length_append, List.length_singleton]
    rcases Nat.lt_trichotomy i (H.next + l.length) with h | h | h
    · rw [if_neg (by omega : ¬ i = H.next + l.length)]
      by_cases h2 : H.next ≤ i
      · rw [if_pos ⟨h2, h⟩, if_pos ⟨h2, by omega⟩, List.getElem?_append_left (by omega)]
      · rw [if_neg (by omega), if_neg (by omega)]
    · subst h
      rw [if_pos rfl, if_pos (⟨by omega, by omega⟩ : H.next ≤ H.next + l.length ∧ H.next + l.length < H.next + (l.length + 1)), Nat.add_sub_cancel_left]
      simp only [List.getElem?_concat_length]
      rfl
    · rw [if_neg (by omega), if_neg (by omega), if_neg (by omega)]
theorem Hl_add (H : Hp) (l : List (Option Ob)) (o : Ob) : (Hl H l).add o = Hl H (l ++ [some o]) := Hl_addO H l (some o)
theorem Hl_set (H : Hp) (l : List (Option Ob)) (i : Nat) (o : Ob) (h : i < l.length) : (Hl H l).set (ad H i) (some o) = Hl H (l.set i (some o)) := by
  apply Hp.ext'
  · simp [Hl]
  · intro k
    simp only [Hl, Hp.set_get, ad, List.length_set]
    by_cases hk : k = H.next + i
    · subst hk
      rw [if_pos rfl, if_pos ⟨by omega, by omega⟩, Nat.add_sub_cancel_left, List.getElem?_set_self h]; rfl
    · rw [if_neg hk]
      by_cases h2 : H.next ≤ k ∧ k < H.next + l.length
      · rw [if_pos h2, if_pos h2, List.getElem?_set_ne (by omega)]
      · rw [if_neg h2, if_neg h2]
theorem Hl_set_old (H : Hp) (l : List (Option Ob)) (id : Nat) (o : Option Ob) (h : id < H.next) : (Hl H l).set id o = Hl (H.set id o) l := by
  apply Hp.ext'
  · rfl
  · intro k
    show (if k = id then o else (Hl H l).get k) = (Hl (H.set id o) l).get k
    by_cases h2 : H.next ≤ k ∧ k < H.next + l.length
    · rw [if_neg (by omega)]
      have e : (H.set id o).get k = H.get k := Hp.set_get_ne (by omega)
      simp only [Hl, Hp.set_next, e]
    · have e1 : (Hl H l).get k = H.get k := if_neg h2
      have e2 : (Hl (H.set id o) l).get k = (H.set id o).get k := if_neg h2
      rw [e1, e2]; rfl
theorem ad_set (H : Hp) (id : Nat) (o : Option Ob) (i : Nat) : ad (H.set id o) i = ad H i := rfl

/-! reading and writing what was made -/
def ldL (l : List (Option Ob)) (n : Option Nat) (i off : Nat) : Option Value := match n with
  | some k => match l[i]? with
    | some (some o) => if off + k ≤ o.cells.length then some (.agg ((o.cells.drop off).take k).toArray) else none
    | _ => none
  | none => match l[i]? with
    | some (some o) => o.cells[off]?
    | _ => none
theorem ldA_Hl' {H : Hp} {l : List (Option Ob)} {n : Option Nat} {i off : Nat} {v : Value} (h : ldL l n i off = some v) : ldA (Hl H l) n (ad H i) off = some v := by
  unfold ldL at h
  unfold ldA
  cases n with
  | none =>
    simp only at h ⊢
    split at h
    · rename_i o ho; rw [Hl_at ho]; exact h
    · cases h
  | some k =>
    simp only [ldCells] at h ⊢
    split at h
    · rename_i o ho
      rw [Hl_at ho]
      simp only
      split at h
      · rename_i hk; rw [if_pos hk]; exact h
      · cases h
    · cases h
theorem ldA_old {H : Hp} {l : List (Option Ob)} {n : Option Nat} {id off : Nat} (h : id < H.next) : ldA (Hl H l) n id off = ldA H n id off := by
  unfold ldA ldCells
  simp only [Hl_old h]

theorem hop_new (cf : CF) (t : Nat → Value) (H : Hp) (l : List (Option Ob)) (z : List Value) : hop cf t (Hl H l) (.new z) = some (.pointer (some ⟨ad H l.length, 0, none⟩), Hl H (l ++ [some ⟨z, false⟩])) := by
  simp only [hop, Hl_add]; rfl
theorem hop_box (cf : CF) (t : Nat → Value) (H : Hp) (l : List (Option Ob)) (x : X) : hop cf t (Hl H l) (.box x) = if (x.ev t).cells.toList.all one1 = true then some (.pointer (some ⟨ad H l.length, 0, none⟩), Hl H (l ++ [some ⟨(x.ev t).cells.toList, false⟩])) else none := by
  simp only [hop, Hl_add]; rfl
theorem hop_bsl (cf : CF) (t : Nat → Value) (H : Hp) (l : List (Option Ob)) (sz : Nat) (z : List Value) (len : Nat) (ps : List (Nat × Nat × X)) : hop cf t (Hl H l) (.bsl sz z len ps) =
    if len = 0 then some (.slice (some ⟨ad H l.length, 0, none⟩) 0 1, Hl H (l ++ [none])) else
    (afill (zeroes z len) (ps.map fun p => (p.1, p.2.1, p.2.2.ev t))).bind fun cs => if cs.all one1 = true then some (.slice (some ⟨ad H l.length, 0, none⟩) len (sz + 2), Hl H (l ++ [some ⟨cs, false⟩])) else none := by
  simp only [hop, Hl_add, ← Hl_addO]; rfl
theorem hop_mks (cf : CF) (t : Nat → Value) (H : Hp) (l : List (Option Ob)) (sz bytes : Nat) (z : List Value) (x y : X) : hop cf t (Hl H l) (.mks sz bytes z x y) = match x.ev t, y.ev t with
    | .int .i64 n, .int .i64 m => if 0 ≤ n ∧ n = m ∧ n ≤ 1073741824 ∧ bytes ≤ 65536 then some (.slice (some ⟨ad H l.length, 0, none⟩) n.toNat (sz + 2), Hl H (l ++ [some ⟨zeroes z n.toNat, false⟩])) else none
    | _, _ => none := by
  simp only [hop, Hl_add]; rfl

/-- A store into what was made. -/
def stL (l : List (Option Ob)) (n i off : Nat) (vs : List Value) : Option (List (Option Ob)) :=
  if vs.length = n ∧ vs.all one1 = true then match l[i]? with
    | some (some o) => if o.ro = false ∧ off + n ≤ o.cells.length then some (l.set i (some ⟨splice o.cells off vs, false⟩)) else none
    | _ => none
  else none
def stV (K : Hp) (n : Nat) (p v : Value) : Option (Value × Hp) := match p with
  | .pointer (some ⟨id, off, none⟩) =>
    let vs := v.cells.toList
    if vs.length = n ∧ vs.all one1 = true then match K.get id with
      | some o => if o.ro = false ∧ off + n ≤ o.cells.length then some (.tuple #[], K.set id (some ⟨splice o.cells off vs, false⟩)) else none
      | none => none
    else none
  | _ => none
def ldV (K : Hp) (n : Option Nat) (p : Value) : Option (Value × Hp) := match p with
  | .pointer (some ⟨id, off, none⟩) => (ldA K n id off).map fun v => (v, K)
  | _ => none
theorem hop_st (cf : CF) (t : Nat → Value) (K : Hp) (n : Nat) (x y : X) : hop cf t K (.st n x y) = stV K n (x.ev t) (y.ev t) := rfl
theorem hop_ld (cf : CF) (t : Nat → Value) (K : Hp) (n : Option Nat) (x : X) : hop cf t K (.ld n x) = ldV K n (x.ev t) := rfl
theorem hop_call (cf : CF) (t : Nat → Value) (H : Hp) (f : FuncId) (l : List X) : hop cf t H (.call f l) = cf f (evs t l) H := rfl
theorem hop_callv (cf : CF) (t : Nat → Value) (H : Hp) (x : X) (l : List X) : hop cf t H (.callv x l) = match x.ev t with
    | .func (.func f) first cap => cf f (first.toList ++ evs t l ++ cap.toList) H
    | _ => none := rfl
theorem hop_app (cf : CF) (t : Nat → Value) (H : Hp) (sz bytes : Nat) (x y : X) : hop cf t H (.app sz bytes x y) = appendA H sz bytes (x.ev t) (y.ev t) := rfl
theorem stV_new' {H : Hp} {l l' : List (Option Ob)} {n i off : Nat} {v : Value} (h : stL l n i off v.cells.toList = some l') :
    stV (Hl H l) n (.pointer (some ⟨ad H i, off, none⟩)) v = some (.tuple #[], Hl H l') := by
  unfold stL at h
  simp only [stV]
  split at h
  · rename_i h1
    rw [if_pos h1]
    split at h
    · rename_i o ho
      rw [Hl_at ho]
      simp only
      split at h
      · rename_i h2
        injection h with h
        subst h
        rw [if_pos h2, Hl_set H l i _ (List.getElem?_eq_some_iff.1 ho).1]
      · cases h
    · cases h
  · cases h
theorem ldV_new' {H : Hp} {l : List (Option Ob)} {n : Option Nat} {i off : Nat} {v : Value} (h : ldL l n i off = some v) :
    ldV (Hl H l) n (.pointer (some ⟨ad H i, off, none⟩)) = some (v, Hl H l) := by
  simp only [ldV, ldA_Hl' h, Option.map_some]
theorem ldV_old {H : Hp} {l : List (Option Ob)} {n : Option Nat} {id off : Nat} (h : id < H.next) :
    ldV (Hl H l) n (.pointer (some ⟨id, off, none⟩)) = (ldA H n id off).map fun v => (v, Hl H l) := by
  simp only [ldV, ldA_old h]

theorem ob_at {l : List (Option Ob)} {i : Nat} (h : (l[i]?).join.isSome = true) : ∃ o, l[i]? = some (some o) := by
  cases e : l[i]? with
  | none => rw [e] at h; cases h
  | some x => cases x with
    | none => rw [e] at h; cases h
    | some o => exact ⟨o, rfl⟩
theorem ldA_Hl {H : Hp} {l : List (Option Ob)} {n : Option Nat} {i off : Nat} (h : (l[i]?).join.isSome = true) : ldA (Hl H l) n (ad H i) off = ldL l n i off := by
  obtain ⟨o, ho⟩ := ob_at h
  unfold ldA ldL
  cases n with
  | none => simp only [Hl_at ho, ho]
  | some k =>
    simp only [ldCells, Hl_at ho, ho]
    split <;> rfl
theorem ldV_new {H : Hp} {l : List (Option Ob)} {n : Option Nat} {i off : Nat} (h : (l[i]?).join.isSome = true) :
    ldV (Hl H l) n (.pointer (some ⟨ad H i, off, none⟩)) = (ldL l n i off).map fun v => (v, Hl H l) := by
  simp only [ldV, ldA_Hl h]
theorem stV_new {H : Hp} {l : List (Option Ob)} {n i off : Nat} {v : Value} (h : (l[i]?).join.isSome = true) :
    stV (Hl H l) n (.pointer (some ⟨ad H i, off, none⟩)) v = (stL l n i off v.cells.toList).map fun l' => (.tuple #[], Hl H l') := by
  obtain ⟨o, ho⟩ := ob_at h
  simp only [stV, stL, Hl_at ho, ho]
  split
  · split
    · simp only [Option.map_some, Hl_set H l i _ (List.getElem?_eq_some_iff.1 ho).1]
    · rfl
  · rfl

/-! frames -/
theorem Fr_Hl {H : Hp} {l l' : List (Option Ob)} (h : l.length ≤ l'.length) : Fr (Hl H l) (Hl H l') := by
  refine ⟨by simp only [Hl]; omega, fun id hid => ?_⟩
  simp only [Hl] at *
  rw [if_neg (by omega), if_neg (by omega)]
theorem Fr_same (H : Hp) : Fr H H ↔ True := ⟨fun _ => trivial, fun _ => Fr.refl H⟩

/-! what a call hands back, if it mentions no row -/
def Keep (H K : Hp) : Prop := ∀ id, id < H.next → K.get id = H.get id
theorem Keep_Hl (H : Hp) (l : List (Option Ob)) : Keep H (Hl H l) := fun _ h => Hl_old h
theorem Keep_refl (H : Hp) : Keep H H := fun _ _ => rfl
def flatV (v : Value) : Bool := (comps v).all flatB
theorem renC_flat {σ : Nat → Nat} {v : Value} (h : flatB v = true) : renC σ v = v := by
  unfold flatB at h
  split at h <;> first | rfl | cases h
theorem cellIds_flat {v : Value} (h : flatB v = true) : cellIds v = [] := by
  unfold flatB at h
  split at h <;> first | rfl | cases h
theorem cellB_flat {v : Value} (h : flatB v = true) : cellB v = true := by
  unfold flatB at h
  split at h <;> first | rfl | cases h
theorem renA_flat {σ : Nat → Nat} {v : Value} (h : v.cells.toList.all flatB = true) : renA σ v = v := by
  have h2 : ∀ u ∈ v.cells.toList, flatB u = true := List.all_eq_true.1 h
  cases v with
  | agg cs =>
    simp only [renA]
    congr 1
    apply Array.ext'
    rw [Array.toList_map]
    have : ∀ l : List Value, (∀ u ∈ l, flatB u = true) → l.map (renC σ) = l := by
      intro l
      induction l with
      | nil => simp
      | cons a r ih => intro hl; simp only [List.map_cons]; rw [renC_flat (hl a (by simp)), ih fun u hu => hl u (by simp [hu])]
    exact this _ h2
  | _ => exact renC_flat (σ := σ) (h2 _ (by first | exact List.mem_singleton.2 rfl | exact List.mem_cons_self))
theorem renV_flat {σ : Nat → Nat} {v : Value} (h : flatV v = true) : renV σ v = v := by
  unfold flatV comps at h
  split at h
  · rename_i vs
    simp only [renV]
    congr 1
    apply Array.ext'
    rw [Array.toList_map]
    have : ∀ l : List Value, (l.flatMap fun u => u.cells.toList).all flatB = true → l.map (renA σ) = l := by
      intro l
      induction l with
      | nil => simp
      | cons a r ih =>
        intro hl
        simp only [List.flatMap_cons, List.all_append, Bool.and_eq_true] at hl
        simp only [List.map_cons]
        rw [renA_flat hl.1, ih hl.2]
    exact this _ h
  · rename_i hn
    have : renV σ v = renA σ v := by
      cases v with
      | tuple vs => exact absurd rfl (hn vs)
      | _ => rfl
    rw [this, renA_flat h]
theorem gcRet_flat {H K : Hp} {v : Value} (hk : Keep H K) (h : flatV v = true) : gcRet H v K = some (v, H) := by
  have h2 : ∀ u ∈ comps v, flatB u = true := List.all_eq_true.1 h
  have hn : newIds H.next v = [] := by
    have : (comps v).flatMap cellIds = [] := by
      rw [List.flatMap_eq_nil_iff]
      exact fun u hu => cellIds_flat (h2 u hu)
    simp [newIds, this, dedup]
  unfold gcRet
  rw [if_pos ⟨hk, List.all_eq_true.2 fun u hu => cellB_flat (h2 u hu)⟩, hn]
  simp only [takeObs, Option.map_some, Hp.addAll]
  rw [renV_flat h]
def okRow (l : List (Option Ob)) (i : Nat) : Bool := match l[i]? with
  | some (some o) => !o.ro && o.cells.all flatB
  | some none => true
  | none => false
theorem addO_some (H : Hp) (o : Ob) : H.addO (some o) = H.add o := rfl
/-- A list that was made and is handed back. -/
theorem gc_sl {H : Hp} {l : List (Option Ob)} {i off n m : Nat} (h : okRow l i = true) :
    gcRet H (.slice (some ⟨ad H i, off, none⟩) n m) (Hl H l) = some (.slice (some ⟨H.next, off, none⟩) n m, H.addO (l[i]?).join) := by
  have hids : newIds H.next (.slice (some ⟨ad H i, off, none⟩) n m) = [ad H i] := by
    simp [newIds, comps, Value.cells, cellIds, dedup, ad]
  unfold gcRet
  rw [if_pos ⟨Keep_Hl H l, by simp [comps, Value.cells, cellB]⟩, hids]
  have hren : renV (fun j => if j < H.next then j else H.next + idx [ad H i] j) (.slice (some ⟨ad H i, off, none⟩) n m) = .slice (some ⟨H.next, off, none⟩) n m := by
    simp only [renV, renA, renC, idx, ad]
    rw [if_neg (by omega)]
    simp
  unfold okRow at h
  split at h
  · rename_i o ho
    have hg := Hl_at (H := H) ho
    simp only [Bool.and_eq_true, Bool.not_eq_true'] at h
    simp only [takeObs, hg]
    rw [if_pos h, hren]
    simp only [Option.map_some, Hp.addAll, ho, Option.join_some]
  · rename_i ho
    have hi := (List.getElem?_eq_some_iff.1 ho).1
    have hg : (Hl H l).get (ad H i) = none := by
      simp only [Hl, ad]
      rw [if_pos ⟨by omega, by omega⟩, show H.next + i - H.next = i by omega, ho]; rfl
    simp only [takeObs, hg]
    rw [hren]
    simp only [Option.map_some, Hp.addAll, ho, Option.join_some]
  · cases h

/-! ### Words for simp -/
theorem upd_eq (t : Nat → Value) (d : Nat) (v : Value) (i : Nat) : upd t d v i = if i = d then v else t i := rfl
theorem init_eq (l : List Value) (i : Nat) : init l i = l.getD i undef := rfl
theorem gc0 {H : Hp} {v : Value} (h : flatV v = true) : gcRet H v H = some (v, H) := gcRet_flat (Keep_refl H) h
theorem gc1 {H : Hp} {l : List (Option Ob)} {v : Value} (h : flatV v = true) : gcRet H v (Hl H l) = some (v, H) := gcRet_flat (Keep_Hl H l) h
theorem Fr_t {H : Hp} {l l' : List (Option Ob)} (h : l.length ≤ l'.length) : Fr (Hl H l) (Hl H l') = True := eq_true (Fr_Hl h)
theorem Sm_t (H : Hp) : Sm H H = True := eq_true fun _ _ => rfl
theorem Sr_t (H : Hp) (i : Nat) : Sr H H i = True := eq_true fun _ => rfl
theorem Sm_Hl {H : Hp} {l l' : List (Option Ob)} (h : l <+: l') : Sm (Hl H l) (Hl H l') = True := eq_true fun id hid => by
  obtain ⟨q, rfl⟩ := h
  simp only [Hl, List.length_append] at *
  by_cases h2 : H.next ≤ id
  · rw [if_pos ⟨h2, by omega⟩, if_pos ⟨h2, by omega⟩, List.getElem?_append_left (by omega)]
  · rw [if_neg (by omega), if_neg (by omega)]
theorem Sr_Hl {H : Hp} {l l' : List (Option Ob)} {i : Nat} (h : i < l'.length) (e : l'[i]? = l[i]?) : Sr (Hl H l) (Hl H l') (ad H i) = True := eq_true fun hid => by
  simp only [Hl, ad] at *
  rw [if_pos ⟨by omega, by omega⟩, if_pos ⟨by omega, by omega⟩, show H.next + i - H.next = i by omega, e]
theorem far_t {H : Hp} {l : List (Option Ob)} {k : Nat} {c : Bool} {id : Nat} : NE.far ⟨k, c, Hl H l, Hl H l⟩ id = True := eq_true ⟨rfl, Nat.lt_or_ge _ _⟩
theorem far_n {H : Hp} {l l' : List (Option Ob)} {k : Nat} {c : Bool} {i : Nat} (h : i < l.length) (h' : i < l'.length) (e : l'[i]? = l[i]?) : NE.far ⟨k, c, Hl H l, Hl H l'⟩ (ad H i) = True :=
  eq_true ⟨by
    simp only [Hl, ad]
    rw [if_pos ⟨by omega, by omega⟩, if_pos ⟨by omega, by omega⟩, show H.next + i - H.next = i by omega, e], .inl (by simp only [Hl, ad]; omega)⟩
theorem wr {x : Int} (h1 : -9223372036854775808 ≤ x) (h2 : x ≤ 9223372036854775807) : IntKind.i64.wrap x = x := by
  have e : IntKind.i64.wrap x = if x % 18446744073709551616 ≥ 9223372036854775808 then x % 18446744073709551616 - 18446744073709551616 else x % 18446744073709551616 := by
    simp [IntKind.wrap, IntKind.bits, IntKind.signed]
  rw [e]
  split <;> omega
def ltV : Value → Value → Option Bool
  | .int k a, .int k' b => if k = k' then some (decide (a < b)) else none
  | _, _ => none
section
variable {P : Program} {F : FuncId → Option AFn}
theorem pop_lt {t : Nat → Value} {x y : X} {b : Bool} (h : ltV (x.ev t) (y.ev t) = some b) : pop P t (.ar .lss x y) = some (.bool b) := by
  simp only [pop]
  unfold ltV at h
  split at h
  · rename_i k a k' b ha hb
    rw [ha, hb]
    simp only [aar]
    split at h
    · rename_i hk
      rw [if_pos hk]
      simp only [aint]
      injection h with h
      rw [h]
    · cases h
  · cases h
/-- A loop over a list, or over a number, that is done. -/
theorem loop_done {c k : Nat} {x y : X} {rest : AC} {t : Nat → Value} {H : Hp} (h : ltV (x.ev t) (y.ev t) = some false) :
    loop P F (.seq (.reg [⟨some c, none, .p (.ar .lss x y)⟩]) (.seq (.ite (.t c) .nop (.exit k)) rest)) ⟨t, H⟩ = some (.ex k, ⟨upd t c (.bool false), H⟩) := by
  rw [loop_eq]
  simp [exec, steps, step1, wanted, pop_lt h, put, X.ev, upd]
/-- .. that goes on. -/
theorem loop_more {c k : Nat} {x y : X} {rest : AC} {t : Nat → Value} {H : Hp} (h : ltV (x.ev t) (y.ev t) = some true) (hg : goodC rest = true) {s' : St} (h2 : xq P (call P F) (loop P F) rest ⟨upd t c (.bool true), H⟩ = some (.nm, s')) :
    loop P F (.seq (.reg [⟨some c, none, .p (.ar .lss x y)⟩]) (.seq (.ite (.t c) .nop (.exit k)) rest)) ⟨t, H⟩ = loop P F (.seq (.reg [⟨some c, none, .p (.ar .lss x y)⟩]) (.seq (.ite (.t c) .nop (.exit k)) rest)) s' := by
  rw [loop_eq]
  simp [exec, steps, step1, wanted, pop_lt h, put, X.ev]
  have e : upd t c (.bool true) c = .bool true := by simp [upd]
  rw [e]
  simp only [cond_true]
  rw [exec_of_xq hg h2]
/-- (so that simp does not go round) -/
noncomputable def loop' (P : Program) (F : FuncId → Option AFn) (b : AC) (s : St) : Option (Ex × St) := loop P F b s
/-- .. once round. -/
theorem loop'_eq : loop' P F = loop P F := rfl
theorem loop_round {b : AC} {s : St} (hg : goodC b = true) : loop P F b s = match xq P (call P F) (loop P F) b s with
    | some (.nm, s') => loop' P F b s'
    | some (e, s') => some (e, s')
    | none => loop' P F b s := by
  cases h2 : xq P (call P F) (loop P F) b s with
  | none => rfl
  | some r =>
    obtain ⟨e, s'⟩ := r
    cases e with
    | nm => exact loop_go hg h2 rfl
    | ex k => exact loop_out hg h2 (by simp)
    | rt => exact loop_out hg h2 (by simp)
end
end Go.Proofs.Ytcofdkcccggmjaa.Am
