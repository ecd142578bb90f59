/- Regions whose order is open, run in their written order; words for evaluation. -/
import Derived.Test.YtcofdkcccggmjaaA12
import Derived.KernelRfl
namespace Go.Proofs.Ytcofdkcccggmjaa.Am
open Go

/-- What an operation did that may change rows. -/
structure NE where
  k : Nat
  c : Bool
  H : Hp
  K : Hp

/-- What an operation may do to the rows. -/
def Fr (H K : Hp) : Prop :=
  H.next ≤ K.next ∧ ∀ id, K.next ≤ id → K.get id = H.get id
/-- An operation left a row alone. -/
def NE.far (e : NE) (id : Nat) : Prop := e.K.get id = e.H.get id ∧ (id < e.H.next ∨ e.K.next ≤ id)

def asc : List Nat → Nat → Bool
  | [], _ => true
  | [a], n => decide (a < n)
  | a :: b :: r, n => decide (a < b) && asc (b :: r) n

def cmpb (bs : List (List Nat)) (i j : Nat) : Bool := i == j || (bs.getD i []).contains j || (bs.getD j []).contains i
/-- Who looks at memory stands in one order with whoever says so of itself. -/
def cmpOk (ops : List DO) : Bool :=
  (List.range ops.length).all fun k => (List.range ops.length).all fun i => match ops[k]?, ops[i]? with
    | some a, some b => !a.cmp || (match b.o.op with | .h _ => cmpb (ops.map (·.bef)) k i | _ => true)
    | _, _ => true
def Sm (H K : Hp) : Prop := ∀ id, id < H.next → K.get id = H.get id
def Sr (H K : Hp) (rid : Nat) : Prop := rid < H.next → K.get rid = H.get rid
def chk1 (bs : List (List Nat)) (e : NE) (q : Nat × Option Nat) : Prop := cmpb bs e.k q.1 = true ∨ match q.2 with
  | none => Sm e.H e.K
  | some rid => Sr e.H e.K rid
def chkL (bs : List (List Nat)) (e : NE) : List (Nat × Option Nat) → Prop
  | [] => True
  | q :: r => chk1 bs e q ∧ chkL bs e r
def chk (bs : List (List Nat)) (lk : List (Nat × Option Nat)) : List NE → Prop
  | [] => True
  | e :: r => (e.c = true ∨ chkL bs e lk) ∧ chk bs lk r
theorem chkL_iff {bs : List (List Nat)} {e : NE} : ∀ {l : List (Nat × Option Nat)}, chkL bs e l ↔ ∀ q ∈ l, chk1 bs e q
  | [] => by simp [chkL]
  | q :: r => by simp only [chkL, chkL_iff (l := r), List.mem_cons, forall_eq_or_imp]

def allFar (bef : List Nat) (id : Nat) : List NE → Prop
  | [] => True
  | e :: r => (bef.contains e.k = true ∨ e.far id) ∧ allFar bef id r

/-- How far such a region is, in its written order: 'ns': the operations that may have changed the heap; 'lk': what was looked at. -/
structure QS where
  i : Nat
  ns : List NE
  lk : List (Nat × Option Nat)
  s : St

/-- What an operation makes that looks at no row. -/
def alo (t : Nat → Value) (n : Nat) : HO → Option (Value × Option Ob)
  | .new z => some (.pointer (some ⟨n, 0, none⟩), some ⟨z, false⟩)
  | .box x => if (x.ev t).cells.toList.all one1 = true then some (.pointer (some ⟨n, 0, none⟩), some ⟨(x.ev t).cells.toList, false⟩) else none
  | .bsl sz z len ps =>
    if len = 0 then some (.slice (some ⟨n, 0, none⟩) 0 1, none) else
    (afill (zeroes z len) (ps.map fun p => (p.1, p.2.1, p.2.2.ev t))).bind fun cs => if cs.all one1 = true then some (.slice (some ⟨n, 0, none⟩) len (sz + 2), some ⟨cs, false⟩) else none
  | _ => none
theorem alo_hop {cf : CF} {t : Nat → Value} {H : Hp} {h : HO} {v : Value} {o : Option Ob} (e : alo t H.next h = some (v, o)) : hop cf t H h = some (v, H.addO o) ∧ ∀ n x, h ≠ .ld n x := by
  cases h with
  | new z => simp only [alo, Option.some.injEq, Prod.mk.injEq] at e; obtain ⟨rfl, rfl⟩ := e; exact ⟨rfl, fun _ _ h => by cases h⟩
  | box x =>
    simp only [alo] at e
    split at e
    · rename_i h1
      simp only [Option.some.injEq, Prod.mk.injEq] at e; obtain ⟨rfl, rfl⟩ := e
      exact ⟨by simp only [hop]; rw [if_pos h1]; rfl, fun _ _ h => by cases h⟩
    · cases e
  | bsl sz z len ps =>
    simp only [alo] at e
    split at e
    · rename_i h1
      simp only [Option.some.injEq, Prod.mk.injEq] at e; obtain ⟨rfl, rfl⟩ := e
      exact ⟨by simp only [hop]; rw [if_pos h1]; rfl, fun _ _ h => by cases h⟩
    · rename_i h1
      rw [Option.bind_eq_some_iff] at e
      obtain ⟨cs, hcs, e⟩ := e
      split at e
      · rename_i h2
        simp only [Option.some.injEq, Prod.mk.injEq] at e; obtain ⟨rfl, rfl⟩ := e
        exact ⟨by simp only [hop]; rw [if_neg h1, hcs, Option.bind_some, if_pos h2]; rfl, fun _ _ h => by cases h⟩
      · cases e
  | _ => cases e

open Classical in
noncomputable def dsq1 (P : Program) (cf : CF) (o : DO) (d : QS) : Option QS :=
  match wanted o.o.g d.s.t with
    | none => none
    | some false => some ⟨d.i + 1, d.ns, d.lk, ⟨put d.s.t o.o.d undef, d.s.H⟩⟩
    | some true => match o.o.op with
      | .p p => (pop P d.s.t p).map fun v => ⟨d.i + 1, d.ns, d.lk, ⟨put d.s.t o.o.d v, d.s.H⟩⟩
      | .h (.ld n x) => match x.ev d.s.t with
        | .pointer (some ⟨id, off, none⟩) => if allFar o.bef id d.ns then (ldA d.s.H n id off).map fun v => ⟨d.i + 1, d.ns, d.lk ++ [(d.i, some id)], ⟨put d.s.t o.o.d v, d.s.H⟩⟩ else none
        | _ => none
      | .h h => match alo d.s.t d.s.H.next h with
        | some (v, ob) => some ⟨d.i + 1, d.ns ++ [⟨d.i, o.cmp, d.s.H, d.s.H.addO ob⟩], d.lk ++ [(d.i, none)], ⟨put d.s.t o.o.d v, d.s.H.addO ob⟩⟩
        | none => bif d.ns.all fun e => o.bef.contains e.k then
          (hop cf d.s.t d.s.H h).bind fun q => if Fr d.s.H q.2 then some ⟨d.i + 1, d.ns ++ [⟨d.i, o.cmp, d.s.H, q.2⟩], d.lk ++ [(d.i, none)], ⟨put d.s.t o.o.d q.1, q.2⟩⟩ else none
        else none
noncomputable def dsq (P : Program) (cf : CF) : List DO → QS → Option QS
  | [], d => some d
  | o :: r, d => (dsq1 P cf o d).bind (dsq P cf r)
open Classical in
noncomputable def dsqEnd (bs : List (List Nat)) (d : QS) : Option St := if chk bs d.lk d.ns then some d.s else none
noncomputable def dsqAll (P : Program) (cf : CF) (ops : List DO) (s : St) : Option St :=
  (dsq P cf ops ⟨0, [], [], s⟩).bind (dsqEnd (ops.map (·.bef)))

theorem heapAt_snoc (n0 : Nat) (g0 : Nat → Option Ob) (rs : List DR) (bef : List Nat) (j : Nat) :
    heapAt n0 g0 rs (bef ++ [j]) = match rs[j]? with
      | some r => mrg n0 (heapAt n0 g0 rs bef) r
      | none => heapAt n0 g0 rs bef := by rw [heapAt, List.foldl_append]; rfl
theorem heapAt_more {n0 : Nat} {g0 : Nat → Option Ob} {rs : List DR} (r : DR) {bef : List Nat} (h : ∀ j ∈ bef, j < rs.length) :
    heapAt n0 g0 (rs ++ [r]) bef = heapAt n0 g0 rs bef := by
  unfold heapAt
  induction bef generalizing g0 with
  | nil => rfl
  | cons a q ih =>
    simp only [List.foldl_cons]
    have ha := h a (by simp)
    rw [List.getElem?_append_left ha]
    exact ih fun j hj => h j (List.mem_cons_of_mem _ hj)

/-- The last of an ascending list below n + 1, if it's n, and what comes ahead of it. -/
theorem asc_split : ∀ (bef : List Nat) (n : Nat), asc bef (n + 1) = true → (asc bef n = true) ∨ ∃ b, bef = b ++ [n] ∧ asc b n = true
  | [], _, _ => .inl rfl
  | [a], n, h => by
    simp only [asc, decide_eq_true_eq] at h
    by_cases e : a = n
    · exact .inr ⟨[], by simp [e], rfl⟩
    · exact .inl (by simp only [asc, decide_eq_true_eq]; omega)
  | a :: b :: r, n, h => by
    simp only [asc, Bool.and_eq_true, decide_eq_true_eq] at h
    rcases asc_split (b :: r) n h.2 with h2 | ⟨c, hc, h2⟩
    · exact .inl (by simp only [asc, Bool.and_eq_true, decide_eq_true_eq]; exact ⟨h.1, h2⟩)
    · cases c with
      | nil =>
        simp only [List.nil_append, List.cons.injEq] at hc
        refine .inr ⟨[a], by simp [hc.1, hc.2], ?_⟩
        simp only [asc, decide_eq_true_eq]
        omega
      | cons x y =>
        simp only [List.cons_append, List.cons.injEq] at hc
        refine .inr ⟨a :: x :: y, by simp [hc.1, hc.2], ?_⟩
        simp only [asc, Bool.and_eq_true, decide_eq_true_eq]
        exact ⟨hc.1 ▸ h.1, h2⟩
theorem asc_lt : ∀ (bef : List Nat) (n : Nat), asc bef n = true → ∀ j ∈ bef, j < n
  | [], _, _, _, h => by cases h
  | [a], n, h, j, hj => by
    simp only [List.mem_singleton] at hj
    simp only [asc, decide_eq_true_eq] at h
    omega
  | a :: b :: r, n, h, j, hj => by
    simp only [asc, Bool.and_eq_true, decide_eq_true_eq] at h
    rcases List.mem_cons.1 hj with e | hj
    · have := asc_lt (b :: r) n h.2 b (by simp)
      omega
    · exact asc_lt (b :: r) n h.2 j hj
theorem asc_range (n : Nat) : asc (List.range n) n = true := by
  have : ∀ k m, asc (List.range' k m) (k + m) = true := by
    intro k m
    induction m generalizing k with
    | zero => rfl
    | succ m ih =>
      cases m with
      | zero => simp [List.range', asc]
      | succ m =>
        have := ih (k + 1)
        simp only [List.range', asc, Bool.and_eq_true, decide_eq_true_eq] at *
        refine ⟨by omega, ?_⟩
        rw [show k + (m + 1 + 1) = k + 1 + (m + 1) by omega]
        exact this
  rw [List.range_eq_range']
  simpa using this 0 n

theorem allFar_iff {bef : List Nat} {id : Nat} : ∀ {ns : List NE}, allFar bef id ns ↔ ∀ e ∈ ns, e.k ∈ bef ∨ e.far id
  | [] => by simp [allFar]
  | e :: r => by simp only [allFar, allFar_iff (ns := r), List.contains_iff_mem, List.mem_cons, forall_eq_or_imp]
theorem chk_iff {bs : List (List Nat)} {lk : List (Nat × Option Nat)} : ∀ {ns : List NE}, chk bs lk ns ↔ ∀ e ∈ ns, e.c = true ∨ ∀ q ∈ lk, chk1 bs e q
  | [] => by simp [chk]
  | e :: r => by simp only [chk, chk_iff (ns := r), chkL_iff, List.mem_cons, forall_eq_or_imp]

/-- What each sees is the heap of the written order, as far as nothing else changed it. -/
structure Qd (ops : List DO) (n0 : Nat) (g0 : Nat → Option Ob) (rs : List DR) (ns : List NE) (lk : List (Nat × Option Nat)) (H : Hp) : Prop where
  le : n0 ≤ H.next
  nsl : ∀ e ∈ ns, e.k < rs.length ∧ ∃ o, ops[e.k]? = some o ∧ o.cmp = e.c
  at_ : ∀ bef, asc bef rs.length = true → ∀ id, (∀ e ∈ ns, e.k ∈ bef ∨ e.far id) → heapAt n0 g0 rs bef id = H.get id
  wrs : ∀ k rk, rs[k]? = some rk → ∀ id, rk.wr id → ∃ e ∈ ns, e.k = k ∧ id < e.H.next ∧ e.K.get id ≠ e.H.get id
  lks : ∀ (i : Nat) ri l, rs[i]? = some ri → ri.lk = some l → (i, l) ∈ lk ∧ ∃ o h, ops[i]? = some o ∧ o.o.op = .h h

theorem get_snoc {rs : List DR} {r rk : DR} {k : Nat} (h : (rs ++ [r])[k]? = some rk) : rs[k]? = some rk ∨ (k = rs.length ∧ rk = r) := by
  rcases Nat.lt_trichotomy k rs.length with hk | hk | hk
  · rw [List.getElem?_append_left hk] at h; exact .inl h
  · subst hk
    simp only [List.getElem?_concat_length, Option.some.injEq] at h
    exact .inr ⟨rfl, h.symm⟩
  · rw [List.getElem?_eq_none (by simp; omega)] at h; cases h

section
variable {ops : List DO} {n0 : Nat} {g0 : Nat → Option Ob} {rs : List DR} {ns : List NE} {lk : List (Nat × Option Nat)} {H : Hp}
theorem Qd.still (q : Qd ops n0 g0 rs ns lk H) {r : DR} (lk' : List (Nat × Option Nat))
    (hl : r.lo = r.hi) (hw : ∀ id, ¬ r.wr id) (hk : ∀ p ∈ lk, p ∈ lk') (hr : ∀ l, r.lk = some l → (rs.length, l) ∈ lk' ∧ ∃ o h, ops[rs.length]? = some o ∧ o.o.op = .h h) : Qd ops n0 g0 (rs ++ [r]) ns lk' H := by
  refine ⟨q.le, fun e he => by have := q.nsl e he; simp only [List.length_append, List.length_singleton]; exact ⟨by omega, this.2⟩, fun bef hb id hn => ?_, fun k rk hrk id h => ?_, fun i ri l hri h => ?_⟩
  · simp only [List.length_append, List.length_singleton] at hb
    rcases asc_split bef _ hb with hb | ⟨b, rfl, hb2⟩
    · rw [heapAt_more r (asc_lt bef _ hb)]
      exact q.at_ bef hb id hn
    · rw [heapAt_snoc]
      simp only [List.getElem?_concat_length]
      rw [heapAt_more (rs := rs) r (asc_lt b rs.length hb2)]
      simp only [mrg]
      rw [if_neg (by rintro (h | h); · omega
                     · exact hw id h)]
      refine q.at_ b hb2 id fun e he => ?_
      have h2 := (q.nsl e he).1
      rcases hn e he with h1 | h1
      · simp only [List.mem_append, List.mem_singleton] at h1
        rcases h1 with h1 | h1
        · exact .inl h1
        · omega
      · exact .inr h1
  · rcases get_snoc hrk with h1 | ⟨_, rfl⟩
    · exact q.wrs k rk h1 id h
    · exact absurd h (hw id)
  · rcases get_snoc hri with h1 | ⟨rfl, rfl⟩
    · exact ⟨hk _ (q.lks i ri l h1 h).1, (q.lks i ri l h1 h).2⟩
    · exact hr l h
theorem Qd.step {K : Hp} (q : Qd ops n0 g0 rs ns lk H) (f : Fr H K) {o : DO} {h : HO} (ho : ops[rs.length]? = some o) (hh : o.o.op = .h h) :
    Qd ops n0 g0 (rs ++ [⟨H.next, K.next, fun id => id < H.next ∧ K.get id ≠ H.get id, K.get, some none⟩]) (ns ++ [⟨rs.length, o.cmp, H, K⟩]) (lk ++ [(rs.length, none)]) K := by
  refine ⟨Nat.le_trans q.le f.1, fun e he => ?_, fun bef hb id hn => ?_, fun k rk hrk id h => ?_, fun i ri l hri h => ?_⟩
  · simp only [List.mem_append, List.mem_singleton] at he
    simp only [List.length_append, List.length_singleton]
    rcases he with he | rfl
    · have := q.nsl e he; exact ⟨by omega, this.2⟩
    · exact ⟨Nat.lt_succ_self _, o, ho, rfl⟩
  · simp only [List.length_append, List.length_singleton] at hb
    have hn' : ∀ b : List Nat, (∀ x, x ∈ bef → x = rs.length ∨ x ∈ b) → ∀ e ∈ ns, e.k ∈ b ∨ e.far id := by
      intro b hb' e he
      have h2 := (q.nsl e he).1
      rcases hn e (by simp [he]) with h1 | h1
      · rcases hb' _ h1 with h3 | h3
        · omega
        · exact .inl h3
      · exact .inr h1
    rcases asc_split bef _ hb with hb | ⟨b, rfl, hb2⟩
    · rw [heapAt_more _ (asc_lt bef _ hb), q.at_ bef hb id (hn' bef fun x hx => .inr hx)]
      rcases hn ⟨rs.length, o.cmp, H, K⟩ (by simp) with h1 | h1
      · exact absurd (asc_lt bef _ hb _ h1) (Nat.lt_irrefl _)
      · exact h1.1.symm
    · rw [heapAt_snoc]
      simp only [List.getElem?_concat_length]
      rw [heapAt_more (rs := rs) _ (asc_lt b rs.length hb2)]
      simp only [mrg]
      rw [q.at_ b hb2 id (hn' b fun x hx => by simp only [List.mem_append, List.mem_singleton] at hx; exact hx.symm)]
      split
      · rfl
      · rename_i h1
        by_cases h2 : K.get id = H.get id
        · exact h2.symm
        · refine (f.2 id ?_).symm
          rcases Nat.lt_or_ge id H.next with h4 | h4
          · exact absurd (.inr ⟨h4, h2⟩) h1
          · rcases Nat.lt_or_ge id K.next with h5 | h5
            · exact absurd (.inl ⟨h4, h5⟩) h1
            · exact h5
  · rcases get_snoc hrk with h1 | ⟨rfl, rfl⟩
    · obtain ⟨e, he, h2⟩ := q.wrs k rk h1 id h
      exact ⟨e, by simp [he], h2⟩
    · exact ⟨_, by simp; exact .inr rfl, rfl, h.1, h.2⟩
  · rcases get_snoc hri with h1 | ⟨rfl, rfl⟩
    · have := q.lks i ri l h1 h
      exact ⟨by simp [this.1], this.2⟩
    · injection h with h
      subst h
      exact ⟨by simp, o, _, ho, hh⟩
end

theorem addO_at (H : Hp) (o : Option Ob) (id : Nat) : (H.addO o).get id = if id = H.next then o else H.get id := by cases o <;> rfl
theorem addO_nx (H : Hp) (o : Option Ob) : (H.addO o).next = H.next + 1 := by cases o <;> rfl
theorem Qd.alloc {ops : List DO} {n0 : Nat} {g0 : Nat → Option Ob} {rs : List DR} {ns : List NE} {lk : List (Nat × Option Nat)} {H : Hp} (q : Qd ops n0 g0 rs ns lk H) {ob : Option Ob} {G : Nat → Option Ob} {o : DO} {h : HO} (ho : ops[rs.length]? = some o) (hh : o.o.op = .h h) :
    Qd ops n0 g0 (rs ++ [⟨H.next, H.next + 1, fun id => id < H.next ∧ ((⟨H.next, G⟩ : Hp).addO ob).get id ≠ G id, ((⟨H.next, G⟩ : Hp).addO ob).get, some none⟩]) (ns ++ [⟨rs.length, o.cmp, H, H.addO ob⟩]) (lk ++ [(rs.length, none)]) (H.addO ob) := by
  have hwr : ∀ id, ¬ (id < H.next ∧ ((⟨H.next, G⟩ : Hp).addO ob).get id ≠ G id) := by
    rintro id ⟨h1, h2⟩
    rw [addO_at] at h2
    simp only at h2
    rw [if_neg (by omega)] at h2
    exact h2 rfl
  refine ⟨by rw [addO_nx]; exact Nat.le_succ_of_le q.le, fun e he => ?_, fun bef hb id hn => ?_, fun k rk hrk id h => ?_, fun i ri l hri h => ?_⟩
  · simp only [List.mem_append, List.mem_singleton] at he
    simp only [List.length_append, List.length_singleton]
    rcases he with he | rfl
    · have := q.nsl e he; exact ⟨by omega, this.2⟩
    · exact ⟨Nat.lt_succ_self _, o, ho, rfl⟩
  · simp only [List.length_append, List.length_singleton] at hb
    have hn' : ∀ b : List Nat, (∀ x, x ∈ bef → x = rs.length ∨ x ∈ b) → ∀ e ∈ ns, e.k ∈ b ∨ e.far id := by
      intro b hb' e he
      have h2 := (q.nsl e he).1
      rcases hn e (by simp [he]) with h1 | h1
      · rcases hb' _ h1 with h3 | h3
        · omega
        · exact .inl h3
      · exact .inr h1
    rcases asc_split bef _ hb with hb | ⟨b, rfl, hb2⟩
    · rw [heapAt_more _ (asc_lt bef _ hb), q.at_ bef hb id (hn' bef fun x hx => .inr hx)]
      rcases hn ⟨rs.length, o.cmp, H, H.addO ob⟩ (by simp) with h1 | h1
      · exact absurd (asc_lt bef _ hb _ h1) (Nat.lt_irrefl _)
      · exact h1.1.symm
    · rw [heapAt_snoc]
      simp only [List.getElem?_concat_length]
      rw [heapAt_more (rs := rs) _ (asc_lt b rs.length hb2)]
      simp only [mrg]
      rw [q.at_ b hb2 id (hn' b fun x hx => by simp only [List.mem_append, List.mem_singleton] at hx; exact hx.symm), addO_at H]
      split
      · rename_i h1
        rcases h1 with h1 | h1
        · have : id = H.next := by omega
          rw [if_pos this, addO_at]
          exact if_pos this
        · exact absurd h1 (hwr id)
      · rename_i h1
        rw [if_neg fun e => h1 (.inl ⟨by omega, by omega⟩)]
  · rcases get_snoc hrk with h1 | ⟨rfl, rfl⟩
    · obtain ⟨e, he, h2⟩ := q.wrs k rk h1 id h
      exact ⟨e, by simp [he], h2⟩
    · exact absurd h (hwr id)
  · rcases get_snoc hri with h1 | ⟨rfl, rfl⟩
    · have := q.lks i ri l h1 h
      exact ⟨by simp [this.1], this.2⟩
    · injection h with h
      subst h
      exact ⟨by simp, o, _, ho, hh⟩

open Classical in
theorem draws_of_dsq {P : Program} {cf : CF} {ops : List DO} {n0 : Nat} {g0 : Nat → Option Ob} :
    ∀ (l : List DO) (d d' : QS) (rs : List DR), Qd ops n0 g0 rs d.ns d.lk d.s.H → d.i = rs.length → (∀ j, l[j]? = ops[rs.length + j]?) →
    (∀ (j : Nat) o, ops[j]? = some o → asc o.bef j = true) → dsq P cf l d = some d' →
    ∃ rs', draws P cf n0 g0 l ⟨d.s.t, rs, d.s.H.next⟩ = some ⟨d'.s.t, rs', d'.s.H.next⟩ ∧ rs'.length = rs.length + l.length ∧ Qd ops n0 g0 rs' d'.ns d'.lk d'.s.H
  | [], d, d', rs, q, hi, hl, ha, h => by
    simp only [dsq, Option.some.injEq] at h
    subst h
    exact ⟨rs, rfl, rfl, q⟩
  | o :: r, ⟨i, ns, lk, s⟩, d', rs, q, hi, hl, ha, h => by
    simp only at hi q
    subst hi
    simp only [dsq, Option.bind_eq_some_iff] at h
    obtain ⟨d1, h, hr⟩ := h
    simp only [dsq1] at h
    simp only [draws, draw1]
    have ho : ops[rs.length]? = some o := by have := hl 0; simp at this; exact this.symm
    have hasc := ha _ _ ho
    have next : ∀ {t' : Nat → Value} {K : Hp} {d : DR} {ns' : List NE} {lk' : List (Nat × Option Nat)}, Qd ops n0 g0 (rs ++ [d]) ns' lk' K → dsq P cf r ⟨rs.length + 1, ns', lk', ⟨t', K⟩⟩ = some d' →
        ∃ rs', draws P cf n0 g0 r ⟨t', rs ++ [d], K.next⟩ = some ⟨d'.s.t, rs', d'.s.H.next⟩ ∧ rs'.length = rs.length + (o :: r).length ∧ Qd ops n0 g0 rs' d'.ns d'.lk d'.s.H := by
      intro t' K d ns' lk' q' h'
      obtain ⟨a, h1, h2, h3⟩ := draws_of_dsq r ⟨rs.length + 1, ns', lk', ⟨t', K⟩⟩ d' _ q' (by simp) (fun j => by have := hl (j + 1); simp only [List.getElem?_cons_succ] at this; rw [this]; congr 1; simp; omega) ha h'
      exact ⟨a, h1, by rw [h2]; simp only [List.length_cons, List.length_append, List.length_nil]; omega, h3⟩
    split at h
    · cases h
    · rename_i hw
      rw [hw]
      injection h with h
      subst h
      exact next (q.still lk rfl (fun _ h => h) (fun _ h => h) (fun l h => by cases h)) hr
    · rename_i hw
      rw [hw]
      split at h
      · rename_i p hp
        rw [hp]
        simp only [Option.map_eq_some_iff] at h
        obtain ⟨v, hv, h⟩ := h
        subst h
        simp only [hv, Option.map_some, Option.bind_some]
        exact next (q.still lk rfl (fun _ h => h) (fun _ h => h) (fun l h => by cases h)) hr
      · rename_i n x hp
        rw [hp]
        simp only
        split at h
        · rename_i id off hx
          rw [hx]
          simp only
          split at h
          · rename_i hf
            simp only [Option.map_eq_some_iff] at h
            obtain ⟨v, hv, h⟩ := h
            subst h
            have hat := q.at_ _ hasc id (allFar_iff.1 hf)
            have hv' : ldA ⟨s.H.next, heapAt n0 g0 rs o.bef⟩ n id off = some v := by
              rw [← hv]
              unfold ldA ldCells
              simp only [hat]
            rw [hv']
            simp only [Option.map_some, Option.bind_some]
            exact next (q.still (lk ++ [(rs.length, some id)]) rfl (fun _ h => h) (fun p h => by simp [h]) (fun l h => by injection h with h; subst h; exact ⟨by simp, o, _, ho, hp⟩)) hr
          · cases h
        · cases h
      · rename_i ho' hnl hp
        have hnl' : ∀ n x, ho' ≠ .ld n x := fun n x e => hnl n x e
        split at h
        · rename_i v ob hal
          injection h with h
          subst h
          have hal2 : alo s.t (⟨s.H.next, heapAt n0 g0 rs o.bef⟩ : Hp).next ho' = some (v, ob) := hal
          have := next (q.alloc (G := heapAt n0 g0 rs o.bef) ho hp) hr
          rw [addO_nx] at this
          rw [hp]
          cases ho' with
          | ld n x => exact absurd rfl (hnl' n x)
          | _ =>
            simp only
            rw [(alo_hop (cf := cf) hal2).1]
            simp only [Option.map_some, Option.bind_some]
            rw [addO_nx]
            exact this
        rcases hb : (ns.all fun e => o.bef.contains e.k) with _ | _
        · rw [hb] at h; cases h
        rw [hb] at h
        simp only [cond_true, Option.bind_eq_some_iff] at h
        obtain ⟨x, hx, h⟩ := h
        split at h
        · rename_i hf
          injection h with h
          subst h
          simp only [List.all_eq_true, List.contains_iff_mem] at hb
          have hH : heapAt n0 g0 rs o.bef = s.H.get := funext fun id => q.at_ _ hasc id fun e he => .inl (hb e he)
          have key : ((hop cf s.t ⟨s.H.next, heapAt n0 g0 rs o.bef⟩ ho').map fun r =>
              (⟨put s.t o.o.d r.1, rs ++ [⟨s.H.next, r.2.next, fun id => id < s.H.next ∧ r.2.get id ≠ heapAt n0 g0 rs o.bef id, r.2.get, some none⟩], r.2.next⟩ : DS)) =
              some ⟨put s.t o.o.d x.1, rs ++ [⟨s.H.next, x.2.next, fun id => id < s.H.next ∧ x.2.get id ≠ s.H.get id, x.2.get, some none⟩], x.2.next⟩ := by
            rw [hH]
            rw [show (⟨s.H.next, s.H.get⟩ : Hp) = s.H from rfl, hx]
            rfl
          have := next (q.step hf ho hp) hr
          rw [hp]
          cases ho' with
          | ld n x => exact absurd rfl (hnl' n x)
          | _ =>
            simp only
            rw [key]
            exact this
        · cases h

theorem Qd.init (ops : List DO) (n0 : Nat) (g0 : Nat → Option Ob) : Qd ops n0 g0 [] [] [] ⟨n0, g0⟩ :=
  ⟨Nat.le_refl _, by simp, fun bef hb id _ => by
    have := asc_lt bef _ hb
    cases bef with
    | nil => rfl
    | cons a r => exact absurd (this a (by simp)) (by simp), by simp, by simp⟩

def ascAll (ops : List DO) : Bool := (List.range ops.length).all fun j => match ops[j]? with
  | some o => asc o.bef j
  | none => true

theorem exec_draw {P : Program} {cf : CF} {ag : AG} {ops : List DO} {s s' : St} (hc : (cmpOk ops && ascAll ops) = true) (h : dsqAll P cf ops s = some s') :
    exec P cf ag (.draw ops) s = some (.nm, s') := by
  simp only [Bool.and_eq_true] at hc
  have hlt : ∀ (j : Nat) o, ops[j]? = some o → j < ops.length := fun j o h => (List.getElem?_eq_some_iff.1 h).1
  have ha : ∀ (j : Nat) o, ops[j]? = some o → asc o.bef j = true := by
    intro j o hj
    have := List.all_eq_true.1 hc.2 j (List.mem_range.2 (hlt j o hj))
    simpa [hj] using this
  simp only [dsqAll, Option.bind_eq_some_iff, dsqEnd] at h
  obtain ⟨d', h, he⟩ := h
  split at he
  case isFalse => cases he
  rename_i hk
  injection he with he
  subst he
  obtain ⟨rs', h1, hlen, q⟩ := draws_of_dsq (g0 := s.H.get) ops ⟨0, [], [], s⟩ d' [] (Qd.init _ _ _) rfl (fun j => by simp) ha h
  simp only [exec, h1, Option.bind_some]
  rw [if_pos]
  · simp only [DS.done]
    rw [show heapAt s.H.next s.H.get rs' (List.range rs'.length) = d'.s.H.get from funext fun id => q.at_ _ (asc_range _) id fun e he => .inl (List.mem_range.2 (q.nsl e he).1)]
  · intro k i rk ri hrk hri hne h1 h2 id hw
    obtain ⟨e, he, rfl, hid, hd⟩ := q.wrs k rk hrk id hw
    cases hl : ri.lk with
    | none => trivial
    | some l =>
      obtain ⟨hm, ob, hb, hob, hobh⟩ := q.lks i ri l hri hl
      obtain ⟨oa, hoa, hoc⟩ := (q.nsl e he).2
      have hncmp : cmpb (ops.map (·.bef)) e.k i ≠ true := by
        unfold cmpb
        intro h3
        simp only [Bool.or_eq_true, beq_iff_eq, List.contains_iff_mem] at h3
        rcases h3 with (h3 | h3) | h3
        · exact hne h3
        · exact h2 h3
        · exact h1 h3
      rcases chk_iff.1 hk e he with hc1 | hc1
      · exfalso
        have h3 := List.all_eq_true.1 (List.all_eq_true.1 hc.1 e.k (List.mem_range.2 (hlt _ _ hoa))) i (List.mem_range.2 (hlt _ _ hob))
        simp only [hoa, hob, hoc, hc1, hobh, Bool.not_true, Bool.false_or] at h3
        exact hncmp h3
      · rcases hc1 (i, l) hm with h3 | h3
        · exact absurd h3 hncmp
        · cases l with
          | none => exact hd (h3 id hid)
          | some rid =>
            intro e'
            subst e'
            exact hd (h3 hid)

/-! frames -/
theorem Fr.refl (H : Hp) : Fr H H := ⟨Nat.le_refl _, fun _ _ => rfl⟩
end Go.Proofs.Ytcofdkcccggmjaa.Am
