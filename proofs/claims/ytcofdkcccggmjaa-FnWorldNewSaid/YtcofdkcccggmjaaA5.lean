/- The operations that look at memory, but for calls. -/
import Derived.Test.YtcofdkcccggmjaaA4
import Derived.Laws.AppendOwn
namespace Go.Proofs.Ytcofdkcccggmjaa.Am
open Go

section
variable {P : Program} {μ : Nat → Loc} {A : Nat → Prop} {N : Nat} {t : Nat → Value} {a : Act} {H : Hp} {w : World}

/-- What an operation comes to, told as the model's machine takes it. -/
def Comes2 (P : Program) (μ : Nat → Loc) (A : Nat → Prop) (H : Hp) (w : World) (s : Sem Next) (v : Value) (K : Hp) : Prop :=
  ∃ nx v' w', s.run P w = .ok nx w' ∧ (nx = .value v' ∨ (nx = .skip ∧ v' = Go.undef)) ∧ Out μ A H w v K v' w'

theorem comes2_value {s : Sem Value} {v v' : Value} {K : Hp} {w' : World} (h : s.run P w = .ok v' w') (ho : Out μ A H w v K v' w') : Comes2 P μ A H w (do pure (.value (← s))) v K :=
  ⟨.value v', v', w', by simp [h], .inl rfl, ho⟩

theorem alloc_eq (w : World) (o : Obj) : ({ w with heap := w.heap.push o } : World) = { (w.alloc o) with drawn := w.drawn } := rfl

theorem zeroes_length (z : List Value) : ∀ n, (zeroes z n).length = n * z.length
  | 0 => by simp [zeroes]
  | n + 1 => by rw [zeroes, List.length_append, zeroes_length z n, Nat.add_mul, Nat.one_mul, Nat.add_comm]
theorem zeroes_flat {z : List Value} (h : z.all flatB = true) : ∀ n, (zeroes z n).all flatB = true
  | 0 => rfl
  | n + 1 => by rw [zeroes, List.all_append, h, zeroes_flat h n]; rfl
theorem zeroes_get {z : List Value} (hz : 0 < z.length) : ∀ (n i : Nat), i < n * z.length → (zeroes z n)[i]? = z[i % z.length]?
  | 0, i, h => by omega
  | n + 1, i, h => by
    rw [zeroes]
    by_cases hi : i < z.length
    · rw [List.getElem?_append_left hi, Nat.mod_eq_of_lt hi]
    · rw [List.getElem?_append_right (by omega), zeroes_get hz n (i - z.length) (by rw [Nat.add_mul] at h; omega), ← Nat.mod_eq_sub_mod (by omega)]
theorem zeroes_eq {zv : Array Value} (hz : 0 < zv.size) (n : Nat) : ((Array.range (n * zv.size)).map (fun i => zv[i % zv.size]!)).toList = zeroes zv.toList n := by
  apply List.ext_getElem?
  intro i
  by_cases hi : i < n * zv.size
  · rw [zeroes_get (by simpa using hz) n i (by simpa using hi), Array.getElem?_toList, Array.getElem?_map, Array.getElem?_range, if_pos hi, Option.map_some, Array.length_toList, Array.getElem?_toList]
    have hm : i % zv.size < zv.size := Nat.mod_lt _ hz
    rw [Array.getElem?_eq_getElem hm, getElem!_pos zv _ hm]
  · rw [List.getElem?_eq_none (by simp; omega), List.getElem?_eq_none (by rw [zeroes_length, Array.length_toList]; omega)]
theorem zeroes_cells (zv : Array Value) (hz : 0 < zv.size) (n : Nat) : Builtin.zeroCells zv n = (zeroes zv.toList n).toArray := by
  apply Array.ext'
  rw [← zeroes_eq hz n]
  rfl

/-- A row made of cells that lie as told. -/
theorem out_row (hH : RelH μ A H w) {e : TypeId} {cs : List Value} {c : Array Value} (hl : RL μ A cs c.toList) (h1s : cs.all one1 = true) {v v' : Value}
    (hv : ∀ ν : Nat → Loc, ν H.next = ⟨w.heap.size, 0, c.size⟩ → RV ν (ext A H.next (H.next + 1)) v v') : Out μ A H w v (H.add ⟨cs, false⟩) v' { w with heap := w.heap.push (.cells c e) } := by
  refine ⟨_, Ext.alloc (e := e) hH w.drawn (c := c) (cs := cs) (by rw [hl.len, Array.length_toList]; omega) (fun j u hu => ?_) h1s (alloc_eq w _), hv _ (setLoc_self _ _ _)⟩
  obtain ⟨u', h1, h2⟩ := hl.get hu
  exact ⟨u', by simpa using h1, h2⟩

theorem ptr_new {ν : Nat → Loc} {B : Nat → Prop} {id b n : Nat} (h : ν id = ⟨b, 0, n⟩) (hB : B id) : RV ν B (.pointer (some ⟨id, 0, none⟩)) (.pointer (some ⟨b, 0, none⟩)) := by
  have := RV.ptr (μ := ν) (A := B) id 0 hB
  rw [h] at this
  exact this
theorem sl_new {ν : Nat → Loc} {B : Nat → Prop} {id b len c s : Nat} (h : ν id = ⟨b, 0, c * s⟩) (hB : B id) (hl : len ≤ c) (hs : 0 < s) :
    RV ν B (.slice (some ⟨id, 0, none⟩) len (s + 2)) (.slice (some ⟨b, 0, none⟩) len c) := by
  have := RV.slFull (μ := ν) (A := B) id 0 len c s hB hl hs (by rw [h]; simp)
  rw [h] at this
  exact this
theorem ext_new (A : Nat → Prop) (n : Nat) : ext A n (n + 1) n := .inr ⟨Nat.le_refl _, by omega⟩

theorem elems_rl (hT : RT μ A N t a) (sz : Nat) : ∀ {ps : List (Nat × Operand)} {qs : List (Nat × Nat × X)}, mapO (elemPart N sz) ps = some qs →
    ps.length = qs.length ∧ ∀ (i : Nat) (p : Nat × Value) (q : Nat × Nat × Value), (ps.map fun (i, x) => (i, a.eval x))[i]? = some p → (qs.map fun p => (p.1, p.2.1, p.2.2.ev t))[i]? = some q →
      (fun i => some (i * sz, sz)) p.1 = some (q.1, q.2.1) ∧ RV μ A q.2.2 p.2
  | [], qs, h => by simp only [mapO, Option.some.injEq] at h; subst h; exact ⟨rfl, fun i p q h => by simp at h⟩
  | x :: r, qs, h => by
    obtain ⟨b, bs, hb, hbs, rfl⟩ := mapO_cons h
    obtain ⟨h1, h2⟩ := elems_rl hT sz hbs
    refine ⟨by simp [h1], fun i p q hp hq => ?_⟩
    cases i with
    | zero =>
      simp at hp hq
      subst hp; subst hq
      simp only [elemPart, Option.map_eq_some_iff] at hb
      obtain ⟨y, hy, rfl⟩ := hb
      exact ⟨rfl, xOf_rv hT hy⟩
    | succ i => exact h2 i p q (by simpa using hp) (by simpa using hq)

theorem src_rl {sz : Nat} {v w' : Value} {new : List Value} {n : Nat} (hH : RelH μ A H w) (hs : srcCells H sz v = some (new, n)) (hr : RV μ A v w') :
    (w' = .slice none 0 0 ∧ n = 0) ∨ (n = 0 ∧ ∃ ad c, w' = .slice ad 0 c) ∨ (∃ ad c ds, w' = .slice (some ad) n c ∧ ds.length = n * sz ∧ RL μ A new ds ∧ ∀ (j : Nat) (u : Value), ds[j]? = some u → w.cell? (ad.add j) = some u) := by
  unfold srcCells at hs
  split at hs
  · rename_i id off len m
    split at hs
    · rename_i h0
      simp only [Option.some.injEq, Prod.mk.injEq] at hs
      obtain ⟨_, rfl⟩ := hs
      subst h0
      refine .inr (.inl ⟨rfl, ?_⟩)
      cases hr <;> exact ⟨_, _, rfl⟩
    simp only [Option.map_eq_some_iff, Prod.mk.injEq] at hs
    obtain ⟨cs, hcs, rfl, rfl⟩ := hs
    obtain ⟨ds, hd, hl, hc⟩ := hH.read hcs
    cases hr with
    | slFull _ _ _ c s hA _ _ _ => exact .inr (.inr ⟨_, c, ds, rfl, hd, hl, hc⟩)
    | slAny _ _ _ c hA _ => exact .inr (.inr ⟨_, c, ds, rfl, hd, hl, hc⟩)
    | slZ _ _ _ ad hA _ => exact .inr (.inl ⟨rfl, _, _, rfl⟩)
  · simp only [Option.some.injEq, Prod.mk.injEq] at hs
    obtain ⟨rfl, rfl⟩ := hs
    exact .inl ⟨hr.flat_eq rfl, rfl⟩
  · cases hs

theorem RV.one1 {v v' : Value} (h : one1 v = true) (hr : RV μ A v v') : v'.oneCell' = true := by
  cases hr <;> first | rfl | (simp [Am.one1] at h)
theorem RL.one1 {l m : List Value} (h : l.all one1 = true) (hr : RL μ A l m) : ∀ v ∈ m, v.oneCell' = true := by
  intro v hv
  obtain ⟨i, hi⟩ := List.getElem?_of_mem hv
  have hl : i < l.length := by rw [hr.len]; exact (List.getElem?_eq_some_iff.1 hi).1
  exact (hr.at_ i _ v (List.getElem?_eq_getElem hl) hi).one1 (List.all_eq_true.1 h _ (List.getElem_mem hl))
theorem src_one1 {sz : Nat} {v : Value} {new : List Value} {n : Nat} (hH : RelH μ A H w) (hs : srcCells H sz v = some (new, n)) : new.all one1 = true := by
  unfold srcCells at hs
  split at hs
  · split at hs
    · simp only [Option.some.injEq, Prod.mk.injEq] at hs
      rw [← hs.1]; rfl
    · simp only [Option.map_eq_some_iff, Prod.mk.injEq] at hs
      obtain ⟨cs, hcs, rfl, rfl⟩ := hs
      unfold ldCells at hcs
      split at hcs
      · rename_i o ho
        split at hcs
        · injection hcs with hcs
          subst hcs
          have := (hH.ob _ o ho).1
          rw [List.all_eq_true] at this ⊢
          exact fun x hx => this x (List.mem_of_mem_drop (List.mem_of_mem_take hx))
        · cases hcs
      · cases hcs
  · simp only [Option.some.injEq, Prod.mk.injEq] at hs
    rw [← hs.1]; rfl
  · cases hs

theorem put_setRow {g : Nat} {c : Array Value} {e : TypeId} (hg : w.heap[g]? = some (.cells c e (0, 0))) (d : Array Value) : Put1 g (.cells d e (0, 0)) w (w.setRow g d) :=
  ⟨rfl, rfl, rfl, by simp [World.setRow], setRow_heap w g c d e _ hg, fun b hb => setRow_other w g b d hb⟩

theorem grown_ge (w : World) (need old : Nat) (e : TypeId) : need ≤ grownCap w need old e := by simp [grownCap, Question.cut]

theorem drew_new (c : Array Value) (e : TypeId) : (w.drew.alloc (.cells c e)) = { (w.alloc (.cells c e)) with drawn := w.drawn + 1 } := rfl

/-- A new row behind a draw. -/
theorem out_grown (hH : RelH μ A H w) {G : Hp} (hG : RelH μ A G w) (hGn : G.next = H.next) (hGH : ∀ id o, G.get id = some o → ∃ o', H.get id = some o' ∧ o'.ro = o.ro) {e : TypeId} {cs ds : List Value} {z : Array Value} {n cap sz : Nat}
    (hl : RL μ A cs ds) (h1s : cs.all one1 = true) (hn : ds.length = n * sz) (hzs : z.size = sz) (hsz : 0 < sz) (hcap : n ≤ cap) {c : Array Value} (hc : c.toList = ds ++ (Builtin.zeroCells z (cap - n)).toList) :
    Out μ A H w (.slice (some ⟨H.next, 0, none⟩) n (sz + 2)) (G.add ⟨cs, false⟩) (.slice (some ⟨w.heap.size, 0, none⟩) n cap) (w.drew.alloc (.cells c e)) := by
  have hcsz : c.size = cap * sz := by
    rw [← Array.length_toList, hc, List.length_append, hn, Array.length_toList, size_zeroCells, hzs, ← Nat.add_mul]
    congr 1
    omega
  refine ⟨setLoc μ H.next ⟨w.heap.size, 0, cap * sz⟩, ?_, ?_⟩
  · refine Ext.new (c := c) (e := e) hH hG hGn hGH rfl rfl rfl (by show _ ≤ (w.heap.push _).size; rw [Array.size_push]; omega) ?_ (fun b hb _ => ?_) (.inl (Nat.le_refl _)) (fun id o h => Nat.ne_of_lt (hG.blk id o h)) hcsz ?_ (fun j v hv => ?_) h1s
    · show (w.heap.push _)[w.heap.size]? = _
      rw [Array.getElem?_push, if_pos rfl]
    · show (w.heap.push _)[b]? = _
      rw [Array.getElem?_push, if_neg (by omega)]
    · rw [hl.len, hn, hcsz]; exact Nat.mul_le_mul_right _ hcap
    · obtain ⟨v', h1, h2⟩ := hl.get hv
      refine ⟨v', ?_, h2⟩
      rw [← Array.getElem?_toList, hc, List.getElem?_append_left (List.getElem?_eq_some_iff.1 h1).1]
      exact h1
  · rw [show (G.add ⟨cs, false⟩).next = H.next + 1 by simp [hGn]]
    exact sl_new (setLoc_self _ _ _) (ext_new A H.next) hcap hsz

theorem drop_sub {id : Nat} : ∀ j o, (H.set id none).get j = some o → ∃ o', H.get j = some o' ∧ o'.ro = o.ro := by
  intro j o h
  by_cases hj : j = id
  · subst hj; rw [Hp.set_get_self] at h; cases h
  · rw [Hp.set_get_ne hj] at h; exact ⟨o, h, rfl⟩

theorem append_none_run {t e ty : TypeId} {i : TypeInfo} (hu : P.underlying t = some (.slice e)) (hi : P.info? e = some i) (base : Option Addr) (len cap : Nat) (h : len ≤ cap) (ad : Option Addr) (c : Nat) :
    (Builtin.append_ #[t, t] ty #[.slice base len cap, .slice ad 0 c]).run P w = .ok (.slice base len cap) w := by
  have hf : (Builtin.firstCells i.size 0 (.slice ad 0 c)).run P w = .ok #[] w := by
    cases ad with
    | none => simp [Builtin.firstCells]
    | some b => simp [Builtin.firstCells, loadCells, loadCellsFrom]
  cases base <;> simp [Builtin.append_, run_underlying hu, sizeOf, typeInfo, hi, Builtin.lenOf, h, hf, storeCells]

/-- An append for which there is room. -/
theorem append_room_run {t e ty : TypeId} {i : TypeInfo} (hu : P.underlying t = some (.slice e)) (hi : P.info? e = some i) {g len cap : Nat} {c : Array Value} {eb : TypeId} (hg : w.heap[g]? = some (.cells c eb (0, 0)))
    {ad : Addr} {n k : Nat} {ds : List Value} (hl : ds.length = n * i.size) (hd : ∀ (j : Nat) (u : Value), ds[j]? = some u → w.cell? (ad.add j) = some u) (h1 : ∀ v ∈ ds, v.oneCell' = true) (hroom : len + n ≤ cap) (hfit : len * i.size + ds.length ≤ c.size) :
    ∃ w' c', (Builtin.append_ #[t, t] ty #[.slice (some ⟨g, 0, none⟩) len cap, .slice (some ad) n k]).run P w = .ok (.slice (some ⟨g, 0, none⟩) (len + n) cap) w' ∧ Put1 g (.cells c' eb (0, 0)) w w' ∧
      c'.toList = splice c.toList (len * i.size) ds ∧ c'.size = c.size := by
  have hf := run_firstCells_some (P := P) w i.size n ad n k ds hl hd
  obtain ⟨w', c', hr, hp, hc, hcs⟩ := storeCells_run (P := P) (off := len * i.size) ds 0 c w hg (by omega) h1
  refine ⟨w', c', ?_, hp, by simpa using hc, hcs⟩
  simp [Builtin.append_, run_underlying hu, sizeOf, typeInfo, hi, Builtin.lenOf, hroom, hf, add_ptr, hr]

theorem append_sound {t e ty : TypeId} {sz by_ : Nat} {z : List Value} {v wv v' wv' r : Value} {K : Hp} (hH : RelH μ A H w) (he : elemOf' P t = some e) (hs : szOf P e = some sz) (hb : bytesOf P e = some by_) (hz : zeroOf P e = some z)
    (hzl : z.length = sz) (hv : RV μ A v v') (hw : RV μ A wv wv') (h : appendA H sz by_ v wv = some (r, K)) :
    ∃ r' w', (Builtin.append_ #[t, t] ty #[v', wv']).run P w = .ok r' w' ∧ Out μ A H w r K r' w' := by
  have hu := und_eq (elem_und he)
  obtain ⟨i, zv, hi, hiz, hzv⟩ := info_of_zero hz
  obtain ⟨i2, hi2, hisz⟩ := info_of_sz hs
  have e1 : i2 = i := by rw [hi] at hi2; exact (Option.some.inj hi2).symm
  subst e1
  have hiby : i2.bytes = by_ := by
    unfold bytesOf at hb
    rw [Option.map_eq_some_iff] at hb
    obtain ⟨i3, h3, h4⟩ := hb
    rw [info_eq h3] at hi
    rw [← Option.some.inj hi]; exact h4
  have hzs : zv.cells.size = sz := by rw [← hzl, ← hzv, Array.length_toList]
  unfold appendA at h
  split at h
  · cases h
  · rename_i new n hsrc
    split at h
    · rename_i hbs
      obtain ⟨hb1, hsz⟩ := hbs
      split at h
      · rename_i a len m
        split at h
        · rename_i hlim
          have h1s := src_one1 hH hsrc
          have hcase := src_rl hH hsrc hw
          split at h
          · rename_i hn0
            subst hn0
            injection h with h
            injection h with h1 h2
            subst h1; subst h2
            have key : ∃ ad c, wv' = .slice ad 0 c := by
              rcases hcase with ⟨rfl, _⟩ | ⟨_, ad, c, rfl⟩ | ⟨ad, c, ds, rfl, _⟩ <;> exact ⟨_, _, rfl⟩
            obtain ⟨ad, c, rfl⟩ := key
            have hv2 : ∃ base l c, v' = .slice base l c ∧ l ≤ c := by
              cases hv with
              | nilSl => exact ⟨_, _, _, rfl, Nat.le_refl _⟩
              | slFull _ _ _ c _ _ hl _ _ => exact ⟨_, _, _, rfl, hl⟩
              | slAny _ _ _ c _ hl => exact ⟨_, _, _, rfl, hl⟩
              | slZ _ _ _ _ _ _ => exact ⟨_, _, _, rfl, Nat.le_refl _⟩
            obtain ⟨base, l, c', rfl, hlc⟩ := hv2
            exact ⟨_, _, append_none_run hu hi base l c' hlc ad c, Out.of_same hH hv⟩
          · rename_i hn0
            have hsrc2 : ∃ ad c ds, wv' = .slice (some ad) n c ∧ ds.length = n * sz ∧ RL μ A new ds ∧ ∀ (j : Nat) (u : Value), ds[j]? = some u → w.cell? (ad.add j) = some u := by
              rcases hcase with ⟨_, h0⟩ | ⟨h0, _⟩ | h0
              · omega
              · omega
              · exact h0
            obtain ⟨ad, c, ds, rfl, hdl, hrl, hdc⟩ := hsrc2
            have hfit : ∀ sc, sc < len + n → Builtin.nextslicecap (len + n) sc * i2.bytes ≤ 281474976710656 := by
              intro sc hsc
              refine growslice_fits hsc ?_
              rw [hiby]
              calc (len + n) * by_ ≤ 1073741824 * 65536 := Nat.mul_le_mul hlim hb1
                _ ≤ 140737488355328 := by omega
            -- a new block behind nothing
            have fresh : ∀ {base : Option Addr}, len = 0 → (base = none ∨ ∃ b, base = some b) → ∃ r' w', (Builtin.append_ #[t, t] ty #[.slice base 0 0, .slice (some ad) n c]).run P w = .ok r' w' ∧
                Out μ A H w (.slice (some ⟨H.next, 0, none⟩) n (sz + 2)) (H.add ⟨new, false⟩) r' w' := by
              intro base h0 hbase
              subst h0
              rcases hbase with rfl | ⟨b, rfl⟩
              · have hr := run_append_nil (P := P) w t ty e i2 zv hu hi hiz ad n c ds (by rw [hdl, hisz]) hdc (by omega) (by omega) (by rw [hiby]; have := Nat.mul_le_mul (show n ≤ 1073741824 by omega) hb1; omega)
                exact ⟨_, _, hr, out_grown hH hH rfl (fun id o h => ⟨o, h, rfl⟩) hrl h1s hdl hzs hsz (grown_ge w n 0 e) (by simp)⟩
              · have hr := run_append_grow (P := P) w t ty e i2 zv hu hi hiz b 0 0 [] (by simp) (fun j u h => by simp at h) ad n c ds (by rw [hdl, hisz]) hdc (by omega) (by omega) (by have := hfit 0 (by omega); simpa using this)
                rw [Nat.zero_add] at hr
                exact ⟨_, _, hr, out_grown hH hH rfl (fun id o h => ⟨o, h, rfl⟩) hrl h1s hdl hzs hsz (grown_ge w n 0 e) (by simp)⟩
            split at h
            · -- nil
              split at h
              · rename_i h0
                obtain ⟨rfl, rfl⟩ := h0
                injection h with h
                injection h with h1 h2
                subst h1; subst h2
                obtain rfl := hv.flat_eq rfl
                exact fresh rfl (.inl rfl)
              · cases h
            · rename_i id off
              split at h
              · rename_i h0
                obtain ⟨rfl, rfl⟩ := h0
                injection h with h
                injection h with h1 h2
                subst h1; subst h2
                cases hv with
                | slZ _ _ _ ad' _ _ => exact fresh rfl (.inr ⟨_, rfl⟩)
              · split at h
                · rename_i hm
                  subst hm
                  split at h
                  · rename_i o ho
                    split at h
                    · cases h
                    · rename_i hro
                      have hro : o.ro = false := by simpa using hro
                      obtain ⟨ho1, _, ho2⟩ := hH.ob id o ho
                      obtain ⟨hoff, cb, eb, hcb, hcbs, hcl, hcc⟩ := ho2 hro
                      split at h
                      · cases h
                      · rename_i hoz
                        have hoz : off = 0 := by simpa using hoz
                        subst hoz
                        have hz1 : (len + n) * sz = len * sz + n * sz := Nat.add_mul _ _ _
                        have hnz : 0 < n * sz := Nat.mul_pos (Nat.pos_of_ne_zero hn0) hsz
                        split at h
                        · -- it goes to its row's end: the row moves on under a new number
                          rename_i hfull
                          injection h with h
                          injection h with h1 h2
                          subst h1; subst h2
                          have hG := hH.drop id
                          -- the old cells as they lie
                          have hlc : ldCells H id 0 (len * sz) = some o.cells := by
                            unfold ldCells
                            rw [ho]
                            simp only [List.drop_zero]
                            rw [if_pos (by rw [hfull]; omega), List.take_of_length_le (Nat.le_of_eq hfull)]
                          have hrd := hH.read hlc
                          obtain ⟨os, hol, horl, hoc⟩ := hrd
                          rw [hoff] at hoc
                          have hall : (o.cells ++ new).all one1 = true := by rw [List.all_append, ho1, h1s]; rfl
                          have grow : ∀ (b : Addr) (sc : Nat), sc < len + n → (∀ (j : Nat) (u : Value), os[j]? = some u → w.cell? (b.add j) = some u) → ∃ r' w', (Builtin.append_ #[t, t] ty #[.slice (some b) len sc, .slice (some ad) n c]).run P w = .ok r' w' ∧
                              Out μ A H w (.slice (some ⟨H.next, 0, none⟩) (len + n) (sz + 2)) ((H.set id none).add ⟨o.cells ++ new, false⟩) r' w' := by
                            intro b sc hsc hbc
                            have hr := run_append_grow (P := P) w t ty e i2 zv hu hi hiz b len sc os (by rw [hol, hisz]) hbc ad n c ds (by rw [hdl, hisz]) hdc hsc (by omega) (hfit sc hsc)
                            refine ⟨_, _, hr, out_grown hH hG rfl drop_sub (horl.append hrl) hall (by rw [List.length_append, hol, hdl, hz1]) hzs hsz (grown_ge w (len + n) sc e) (by simp)⟩
                          cases hv with
                          | slFull _ _ _ cp _ hA hl _ hsize =>
                            rw [hoff] at *
                            simp only [Nat.zero_add] at *
                            by_cases hroom : len + n ≤ cp
                            · have hcp : (len + n) * sz ≤ cp * sz := Nat.mul_le_mul_right _ hroom
                              have hfits : len * i2.size + ds.length ≤ cb.size := by rw [hisz, hdl, hcbs, hsize]; omega
                              obtain ⟨w', c', hr, hp, hc', hcs'⟩ := append_room_run (P := P) (ty := ty) (k := c) hu hi hcb (by rw [hdl, hisz]) hdc (hrl.one1 h1s) hroom hfits
                              rw [hisz] at hc'
                              refine ⟨_, _, hr, setLoc μ H.next ⟨(μ id).blk, 0, cp * sz⟩, ?_, ?_⟩
                              · refine Ext.new (e := eb) hH hG rfl drop_sub hp.os hp.tape hp.output (Nat.le_of_eq hp.size.symm) hp.at_ (fun b _ hb => hp.ne b hb) (.inr ⟨id, o, ho, hro, rfl⟩) (fun j q hq => ?_) ?_ ?_ (fun j u hu => ?_) hall
                                · by_cases hj : j = id
                                  · subst hj; rw [Hp.set_get_self] at hq; cases hq
                                  · rw [Hp.set_get_ne hj] at hq
                                    exact fun h => hH.inj id j o q ho hq hro (Ne.symm hj) h.symm
                                · rw [hcs', hcbs, hsize]
                                · rw [hcs', List.length_append, hfull, hrl.len, hdl, hcbs, hsize]; omega
                                · rw [← Array.getElem?_toList, hc', splice_get (by have := Array.length_toList (xs := cb); omega)]
                                  by_cases hjl : j < len * sz
                                  · rw [if_pos hjl]
                                    rw [List.getElem?_append_left (by omega)] at hu
                                    obtain ⟨u', h5, h6⟩ := hcc j u hu
                                    exact ⟨u', by rw [Array.getElem?_toList]; exact h5, h6⟩
                                  · rw [if_neg hjl]
                                    rw [List.getElem?_append_right (by omega), hfull] at hu
                                    obtain ⟨u', h5, h6⟩ := hrl.get hu
                                    rw [if_pos (by have := (List.getElem?_eq_some_iff.1 h5).1; omega)]
                                    exact ⟨u', h5, h6⟩
                              · rw [show ((H.set id none).add ⟨o.cells ++ new, false⟩).next = H.next + 1 from rfl]
                                exact sl_new (setLoc_self _ _ _) (ext_new A H.next) hroom hsz
                            · exact grow _ cp (by omega) (fun j u hj => by simpa using hoc j u hj)
                          | slZ _ _ _ ad' hA hz0 =>
                            refine grow ad' 0 (by omega) (fun j u hj => ?_)
                            have hos : os = [] := by
                              apply List.eq_nil_of_length_eq_zero
                              rw [hol]; simp
                            subst hos
                            simp at hj
                        · rename_i hnf
                          split at h
                          · rename_i hin
                            injection h with h
                            injection h with h1 h2
                            subst h1; subst h2
                            cases hv with
                            | slFull _ _ _ cp _ hA hl _ hsize =>
                              simp only [Nat.zero_add] at hsize
                              have hroom : len + n ≤ cp := by
                                have : (len + n) * sz ≤ cp * sz := by omega
                                exact Nat.le_of_mul_le_mul_right this hsz
                              have hfits : len * i2.size + ds.length ≤ cb.size := by rw [hisz, hdl]; omega
                              obtain ⟨w', c', hr, hp, hc', hcs'⟩ := append_room_run (P := P) (ty := ty) (k := c) hu hi hcb (by rw [hdl, hisz]) hdc (hrl.one1 h1s) hroom hfits
                              rw [hisz] at hc'
                              have hspo : (splice o.cells (len * sz) new).length = o.cells.length := splice_length (by rw [hrl.len, hdl]; omega)
                              rw [hoff]
                              refine ⟨_, _, hr, μ, Ext.put (e := eb) hH ho hro (cs := splice o.cells (len * sz) new) hp (by rw [hcs', hcbs]) (by rw [hcs', hspo]; exact hcl) (fun j u hu => ?_) ?_, ?_⟩
                              · rw [← Array.getElem?_toList, hc', splice_get (by have := Array.length_toList (xs := cb); omega)]
                                rw [splice_get (by rw [hrl.len, hdl]; omega)] at hu
                                by_cases hjl : j < len * sz
                                · rw [if_pos hjl] at hu ⊢
                                  obtain ⟨u', h5, h6⟩ := hcc j u hu
                                  exact ⟨u', by rw [Array.getElem?_toList]; exact h5, h6⟩
                                · rw [if_neg hjl] at hu ⊢
                                  rw [hrl.len] at hu
                                  by_cases hj2 : j < len * sz + ds.length
                                  · rw [if_pos hj2] at hu ⊢
                                    exact hrl.get hu
                                  · rw [if_neg hj2] at hu ⊢
                                    obtain ⟨u', h5, h6⟩ := hcc j u hu
                                    exact ⟨u', by rw [Array.getElem?_toList]; exact h5, h6⟩
                              · rw [List.all_eq_true]
                                intro x hx
                                simp only [splice, List.mem_append] at hx
                                rw [List.all_eq_true] at ho1 h1s
                                rcases hx with (hx | hx) | hx
                                · exact ho1 x (List.mem_of_mem_take hx)
                                · exact h1s x hx
                                · exact ho1 x (List.mem_of_mem_drop hx)
                              · rw [show (H.set id (some ⟨splice o.cells (len * sz) new, false⟩)).next = H.next from rfl, ext_self]
                                have := RV.slFull (μ := μ) (A := A) id 0 (len + n) cp sz hA hroom hsz (by omega)
                                rw [hoff] at this
                                exact this
                            | slZ _ _ _ ad' hA hz0 =>
                              have := hz0 (by omega)
                              simp only [Nat.zero_add] at *
                              omega
                          · cases h
                  · cases h
                · cases h
            · cases h
        · cases h
      · cases h
    · cases h

theorem ld_run {ty : TypeId} {n : Option Nat} (hn : ldOf P ty = some n) (hH : RelH μ A H w) {id off : Nat} {v : Value}
    (h : ldA H n id off = some v) :
    ∃ v', (loadVar ty ⟨(μ id).blk, (μ id).off + off, none⟩).run P w = .ok v' w ∧ RV μ A v v' := by
  unfold ldOf at hn
  split at hn
  · rename_i k ha hs
    injection hn with hn
    subst hn
    simp only [ldA, Option.map_eq_some_iff] at h
    obtain ⟨cs, hcs, rfl⟩ := h
    obtain ⟨ds, hd, hl, hc⟩ := hH.read hcs
    refine ⟨.agg ds.toArray, ?_, RV.agg_of hl⟩
    have := run_loadCells_list (P := P) w _ ds hc
    rw [hd] at this
    simp [loadVar, run_of_evalP ha, sz_run hs, this]
  · rename_i ha
    injection hn with hn
    subst hn
    simp only [ldA] at h
    split at h
    · rename_i o ho
      obtain ⟨v', hv', hr⟩ := hH.cell ho h
      exact ⟨v', by simp [loadVar, run_of_evalP ha, hv'], hr⟩
    · cases h
  · cases hn

theorem st_run {ty : TypeId} {n : Nat} (hn : szOf P ty = some n) (hH : RelH μ A H w) {id off : Nat} {o : Ob} (ho : H.get id = some o) (hro : o.ro = false) {v v' : Value} (hr : RV μ A v v') (hl : v.cells.toList.length = n) (h1 : v.cells.toList.all one1 = true)
    (hfit : off + n ≤ o.cells.length) : ∃ w', (storeVar ty ⟨(μ id).blk, (μ id).off + off, none⟩ v').run P w = .ok () w' ∧ Ext μ A H w μ (H.set id (some ⟨splice o.cells off v.cells.toList, false⟩)) w' := by
  obtain ⟨ho1, _, ho2⟩ := hH.ob id o ho
  obtain ⟨hoff, c, e, hc, hcs, hcl, hcc⟩ := ho2 hro
  have hrl := hr.cells h1
  have hl' : v'.cells.toList.length = n := by rw [← hrl.len]; exact hl
  have hsz : v'.cells.size = n := by rw [← Array.length_toList]; exact hl'
  obtain ⟨w', c', hrun, hp, hc', hcs'⟩ := storeCells_run (P := P) (off := (μ id).off + off) v'.cells.toList 0 c w hc (by omega) (hrl.one1 h1)
  refine ⟨w', ?_, ?_⟩
  · simp [storeVar, sz_run hn, hsz, hrun]
  · rw [hoff] at hc'
    simp only [Nat.zero_add, Nat.add_zero] at hc'
    have hspo : (splice o.cells off v.cells.toList).length = o.cells.length := splice_length (by omega)
    refine Ext.put (e := e) hH ho hro hp (by rw [hcs', hcs]) (by rw [hcs', hspo]; exact hcl) (fun j u hu => ?_) ?_
    · rw [← Array.getElem?_toList, hc', splice_get (by have := Array.length_toList (xs := c); omega)]
      rw [splice_get (by omega)] at hu
      by_cases hjl : j < off
      · rw [if_pos hjl] at hu ⊢
        obtain ⟨u', h5, h6⟩ := hcc j u hu
        exact ⟨u', by rw [Array.getElem?_toList]; exact h5, h6⟩
      · rw [if_neg hjl] at hu ⊢
        rw [hrl.len] at hu
        by_cases hj2 : j < off + v'.cells.toList.length
        · rw [if_pos hj2] at hu ⊢
          exact hrl.get hu
        · rw [if_neg hj2] at hu ⊢
          obtain ⟨u', h5, h6⟩ := hcc j u hu
          exact ⟨u', by rw [Array.getElem?_toList]; exact h5, h6⟩
    · rw [List.all_eq_true]
      intro x hx
      simp only [splice, List.mem_append] at hx
      rw [List.all_eq_true] at ho1 h1
      rcases hx with (hx | hx) | hx
      · exact ho1 x (List.mem_of_mem_take hx)
      · exact h1 x hx
      · exact ho1 x (List.mem_of_mem_drop hx)

theorem flat_one1 {l : List Value} (h : l.all flatB = true) : l.all one1 = true := by
  rw [List.all_eq_true] at h ⊢
  intro x hx
  have := h x hx
  cases x <;> first | rfl | (simp [flatB] at this)

theorem afill_length : ∀ {qs : List (Nat × Nat × Value)} {cs cs' : List Value}, afill cs qs = some cs' → cs'.length = cs.length
  | [], _, _, h => by simp only [afill, Option.some.injEq] at h; rw [h]
  | (off, n, v) :: r, cs, cs', h => by
    simp only [afill] at h
    split at h
    · rename_i hc
      rw [afill_length h, splice_length (by omega)]
    · cases h

def isCall : HO → Bool
  | .call _ _ | .callv _ _ => true
  | _ => false

theorem callOf_h {c : Call} {q : HO} (h : callOf P N c = some (.h q)) (hq : isCall q = false) : ∃ b as, c.callee = .builtin b ∧ mapO (xOf N) c.args.toList = some as ∧
    ((b = .append ∧ ∃ ty e sz by_ z x y, c.argTypes = #[ty, ty] ∧ elemOf' P ty = some e ∧ szOf P e = some sz ∧ bytesOf P e = some by_ ∧ zeroOf P e = some z ∧ z.length = sz ∧ as = [x, y] ∧ q = .app sz by_ x y) ∨
     (b = .clear ∧ ∃ ty e sz z x, c.argTypes = #[ty] ∧ elemOf' P ty = some e ∧ szOf P e = some sz ∧ zeroOf P e = some z ∧ z.length = sz ∧ z.all flatB = true ∧ 0 < sz ∧ as = [x] ∧ q = .clr sz z x)) := by
  unfold callOf at h
  split at h
  · cases h
  · rename_i as has
    split at h
    · injection h with h; injection h with h; subst h; cases hq
    · simp only [Option.map_eq_some_iff] at h; obtain ⟨y, _, e⟩ := h; injection e with e; subst e; cases hq
    · rename_i hc
      split at h
      · rename_i ty u x y ht
        split at h
        · rename_i e he
          split at h
          · rename_i sz by_ z h1 h2 h3
            split at h
            · rename_i hz
              obtain ⟨rfl, hz⟩ := hz
              injection h with h; injection h with h
              exact ⟨_, _, hc, has, .inl ⟨rfl, ty, e, sz, by_, z, x, y, Array.ext' ht, he, h1, h2, h3, hz, rfl, h.symm⟩⟩
            · cases h
          · cases h
        · cases h
      · cases h
    · split at h
      · simp only [Option.map_eq_some_iff] at h; obtain ⟨y, _, e⟩ := h; cases e
      · cases h
    · split at h <;> cases h
    · split at h <;> cases h
    · rename_i hc
      split at h
      · rename_i ty x ht
        split at h
        · rename_i e he
          split at h
          · rename_i sz z h1 h2
            split at h
            · rename_i hz
              injection h with h; injection h with h
              exact ⟨_, _, hc, has, .inr ⟨rfl, ty, e, sz, z, x, Array.ext' ht, he, h1, h2, hz.1, hz.2.1, hz.2.2, rfl, h.symm⟩⟩
            · cases h
          · cases h
        · cases h
      · cases h
    · cases h

theorem addN_eq (hH : RelH μ A H w) : H.addN = ⟨H.next + 1, H.get⟩ := Hp.ext' rfl fun i => by
  simp only [Hp.addN]
  split
  · rename_i e
    cases h : H.get i with
    | none => rfl
    | some o => have := hH.lt i (hH.dom i o h); omega
  · rfl
theorem out_fresh0 (hH : RelH μ A H w) {e : TypeId} : Out μ A H w (.slice (some ⟨H.next, 0, none⟩) 0 1) ⟨H.next + 1, H.get⟩ (.slice (some ⟨w.heap.size, 0, none⟩) 0 0) { w with heap := w.heap.push (.cells #[] e) } := by
  have h1 := Ext.alloc (e := e) hH w.drawn (c := #[]) (cs := []) (Nat.le_refl _) (fun j v h => by simp at h) rfl rfl
  refine ⟨setLoc μ H.next ⟨w.heap.size, 0, 0⟩, ⟨h1.agree, Nat.le_succ _, ?_, rfl, rfl, rfl, h1.size, h1.frame, fun j o ho hr => ⟨o, ho, hr⟩, fun j o ho hr => ?_⟩, .slZ _ _ _ _ (ext_new A H.next) (fun h => by omega)⟩
  · have h2 := h1.rel.drop H.next
    have he : ∀ j o, H.get j = some o → ((H.add ⟨[], false⟩).set H.next none).get j = some o := by
      intro j o ho
      have hj : j ≠ H.next := Nat.ne_of_lt (hH.lt j (hH.dom j o ho))
      rw [Hp.set_get_ne hj, Hp.add_get_ne hj]
      exact ho
    exact ⟨h2.lt, fun j o ho => h2.dom j o (he j o ho), fun j o ho => h2.blk j o (he j o ho), fun j o ho => h2.ob j o (he j o ho), fun j j' o o' ho ho' => h2.inj j j' o o' (he j o ho) (he j' o' ho')⟩
  · have hj : j ≠ H.next := Nat.ne_of_lt (hH.lt j (hH.dom j o ho))
    rw [setLoc_ne hj]
    exact .inr ⟨j, o, ho, hr, rfl⟩

set_option maxHeartbeats 1000000 in
theorem hop_sound {cf : CF} {o : Oper} {q : HO} {v : Value} {K : Hp} (hT : RT μ A N t a) (hH : RelH μ A H w) (hc : opOf P N o = some (.h q)) (hq : isCall q = false) (h : hop cf t H q = some (v, K)) :
    Comes2 P μ A H w (execOp a.eval o) v K := by
  obtain ⟨dst, op, ty, pos, after, guard⟩ := o
  cases op <;> simp only [opOf] at hc
  case move x => simp only [Option.map_eq_some_iff] at hc; obtain ⟨y, _, e⟩ := hc; cases e
  case assign x => simp only [Option.map_eq_some_iff] at hc; obtain ⟨y, _, e⟩ := hc; cases e
  case pick c x y => split at hc <;> cases hc
  case alloc e =>
    split at hc
    · rename_i z hz
      split at hc
      · rename_i hf
        injection hc with e; injection e with e; subst e
        simp only [hop, Option.some.injEq, Prod.mk.injEq] at h
        obtain ⟨rfl, rfl⟩ := h
        obtain ⟨zv, hzv, hzr⟩ := zero_run hz
        refine comes2_value (v' := .pointer (some ⟨w.heap.size, 0, none⟩)) (w' := { w with heap := w.heap.push (.cells zv.cells e) }) ?_ (out_row hH (by rw [hzv]; exact RL.of_flat hf) (flat_one1 hf) fun ν hν => ptr_new hν (ext_new A H.next))
        simp [Instr.alloc, hzr, newVar, newRow]
      · cases hc
    · cases hc
  case box ebox x =>
    simp only [Option.map_eq_some_iff] at hc
    obtain ⟨y, hy, e⟩ := hc
    injection e with e; subst e
    simp only [hop] at h
    split at h
    · rename_i h1
      simp only [Option.some.injEq, Prod.mk.injEq] at h
      obtain ⟨rfl, rfl⟩ := h
      refine comes2_value (v' := .pointer (some ⟨w.heap.size, 0, none⟩)) (w' := { w with heap := w.heap.push (.cells (a.eval x).cells ebox) }) ?_ (out_row hH ((xOf_rv hT hy).cells h1) h1 fun ν hν => ptr_new hν (ext_new A H.next))
      simp [Instr.box, newVar, newRow]
    · cases h
  case build ty' ps =>
    split at hc
    · split at hc
      · split at hc
        · simp only [Option.map_eq_some_iff] at hc; obtain ⟨y, _, e⟩ := hc; cases e
        · cases hc
      · cases hc
    · cases hc
  case buildSlice ty' n ps =>
    split at hc
    · rename_i e he
      split at hc
      · rename_i sz z hs hz
        split at hc
        · rename_i hk
          obtain ⟨hk1, hk2, hk3, hk4, hk5⟩ := hk
          simp only [Option.map_eq_some_iff] at hc
          obtain ⟨qs, hqs, e2⟩ := hc
          injection e2 with e2; subst e2
          obtain ⟨zv, hzv, hzr⟩ := zero_run hz
          have hzs : zv.cells.size = sz := by rw [← hk1, ← hzv, Array.length_toList]
          obtain ⟨hl, hel⟩ := elems_rl hT sz hqs
          have hbig : ¬ (n * sz > 16777216) := by omega
          simp only [hop] at h
          split at h
          · rename_i hn0
            subst hn0
            simp only [Option.some.injEq, Prod.mk.injEq] at h
            obtain ⟨rfl, rfl⟩ := h
            rw [addN_eq hH]
            refine comes2_value (v' := .slice (some ⟨w.heap.size, 0, none⟩) 0 0) (w' := { w with heap := w.heap.push (.cells #[] e) }) ?_ (out_fresh0 hH)
            have hps : ps = #[] := Array.eq_empty_of_size_eq_zero (hk5 rfl)
            subst hps
            have e0 : Array.map (fun x => (default : Value)) (Array.range 0) = #[] := Array.ext' (by simp)
            simp [Instr.buildSlice, und_run (elem_und he), sz_run hs, Instr.fill, newRow, e0]
          · rename_i hn0
            rw [Option.bind_eq_some_iff] at h
            obtain ⟨cs, hcs, h⟩ := h
            split at h
            · rename_i h1
              simp only [Option.some.injEq, Prod.mk.injEq] at h
              obtain ⟨rfl, rfl⟩ := h
              have hz0 : RL μ A (zeroes z n) (((Array.range (n * sz)).map (fun i => zv.cells[i % zv.cells.size]!)).toList) := by
                have := zeroes_eq (zv := zv.cells) (by omega) n
                rw [← hzs, this, hzv]
                exact RL.of_flat (zeroes_flat hk4 n)
              obtain ⟨ds, hfill, hrl⟩ := fill_rl (μ := μ) (A := A) (place := fun i => some (i * sz, sz)) (ps := (ps.map fun (i, x) => (i, a.eval x)).toList) (by simpa using hl) (fun i p q hp hq => hel i p q (by simpa using hp) hq) hz0 hcs
              have hlen : ds.size = n * sz := by
                have h2 := hrl.len
                rw [afill_length hcs, zeroes_length, hk1, Array.length_toList] at h2
                exact h2.symm
              refine comes2_value (v' := .slice (some ⟨w.heap.size, 0, none⟩) n n) (w' := { w with heap := w.heap.push (.cells ds e) }) ?_ (out_row hH hrl h1 fun ν hν => sl_new (by rw [hν, hlen]) (ext_new A H.next) (Nat.le_refl _) hk2)
              have hnz : n * sz ≠ 0 := by have := Nat.mul_pos (Nat.pos_of_ne_zero hn0) hk2; omega
              unfold Instr.buildSlice
              simp only [Sem.run_bind, und_run (elem_und he), sz_run hs, Result.andThen_ok, hbig, if_false, hnz, hzr, Sem.run_pure, hfill, newRow, run_newObj]
            · cases h
        · cases hc
      · cases hc
    · cases hc
  case load ty' x =>
    split at hc
    · rename_i n y hn hy
      injection hc with e; injection e with e; subst e
      simp only [hop] at h
      split at h
      · rename_i id off hq
        have hr := xOf_rv hT hy
        rw [hq] at hr
        generalize hz : a.eval x = z at hr
        cases hr with
        | ptr _ _ hA =>
          simp only [Option.map_eq_some_iff, Prod.mk.injEq] at h
          obtain ⟨u, h1, rfl, rfl⟩ := h
          obtain ⟨v', hv', hr'⟩ := ld_run hn hH h1
          exact comes2_value (by simp [hz, Instr.loadAt, Instr.sureAddr, hv']) (Out.of_same hH hr')
      · cases h
    · cases hc
  case store ty' x y =>
    split at hc
    · rename_i n x' y' hn hx hy
      injection hc with e; injection e with e; subst e
      simp only [hop] at h
      split at h
      · rename_i id off hq
        have hr := xOf_rv hT hx
        rw [hq] at hr
        generalize hz : a.eval x = z at hr
        cases hr with
        | ptr _ _ hA =>
          split at h
          · rename_i hk
            split at h
            · rename_i o ho
              split at h
              · rename_i hk2
                simp only [Option.some.injEq, Prod.mk.injEq] at h
                obtain ⟨rfl, rfl⟩ := h
                obtain ⟨w', hw', hext⟩ := st_run hn hH ho hk2.1 (xOf_rv hT hy) hk.1 hk.2 hk2.2
                exact ⟨.skip, Go.undef, w', by simp [execOp, hz, Instr.storeAt, Instr.sureAddr, hw'], .inr ⟨rfl, rfl⟩, μ, hext, RV.undef⟩
              · cases h
            · cases h
          · cases h
      · cases h
    · cases hc
  case nilCheck x => simp only [Option.map_eq_some_iff] at hc; obtain ⟨y, _, e⟩ := hc; cases e
  case binOp op ty' x y yt =>
    split at hc
    · split at hc
      · split at hc <;> cases hc
      · split at hc <;> cases hc
    · cases hc
  case unOp op ty' x =>
    cases op <;> simp only at hc <;> first
      | (simp only [Option.map_eq_some_iff] at hc; obtain ⟨y, _, e⟩ := hc; cases e; done)
      | cases hc
  case convert s d x =>
    split at hc
    · simp only [Option.map_eq_some_iff] at hc; obtain ⟨y, _, e⟩ := hc; cases e
    · cases hc
  case makeSlice ty' l c =>
    split at hc
    · rename_i e he
      split at hc
      · rename_i sz by_ z hs hb hz
        split at hc
        · rename_i hk
          obtain ⟨hk1, hk2, hk3⟩ := hk
          split at hc
          · rename_i l' c' hl hcc
            injection hc with e2; injection e2 with e2; subst e2
            simp only [hop] at h
            split at h
            · rename_i n m hn hm
              split at h
              · rename_i hk4
                obtain ⟨h0, hnm, hlim, hbl⟩ := hk4
                subst hnm
                simp only [Option.some.injEq, Prod.mk.injEq] at h
                obtain ⟨rfl, rfl⟩ := h
                have r1 := xOf_rv hT hl
                rw [hn] at r1
                have r2 := xOf_rv hT hcc
                rw [hm] at r2
                have e1 := r1.int_inv
                have e2 := r2.int_inv
                obtain ⟨zv, hzv, hzr⟩ := zero_run hz
                have hzs : zv.cells.size = sz := by rw [← hk1, ← hzv, Array.length_toList]
                obtain ⟨i, hi, hib⟩ : ∃ i, (∀ w, (typeInfo e).run P w = .ok i w) ∧ i.bytes = by_ := by
                  unfold bytesOf at hb
                  rw [Option.map_eq_some_iff] at hb
                  obtain ⟨i, h1, h2⟩ := hb
                  exact ⟨i, run_of_evalP h1, h2⟩
                have hwr : IntKind.i64.wrap n = n := IntWalk.i64_in n (by omega)
                have hN : (n.toNat : Int) = n := Int.toNat_of_nonneg h0
                have hbn : (by_ : Int) * n ≤ 281474976710656 := by
                  have h1 : by_ * n.toNat ≤ 65536 * 1073741824 := Nat.mul_le_mul hbl (by omega)
                  have h2 : (by_ : Int) * n = ((by_ * n.toNat : Nat) : Int) := by rw [Int.natCast_mul, hN]
                  omega
                have hcells : ((Array.range (n.toNat * sz)).map (fun i => zv.cells[i % zv.cells.size]!)).toList = zeroes z n.toNat := by
                  have := zeroes_eq (zv := zv.cells) (by omega) n.toNat
                  rw [hzs] at this
                  rw [hzs, this, hzv]
                have hcsz : ((Array.range (n.toNat * sz)).map (fun i => zv.cells[i % zv.cells.size]!)).size = n.toNat * sz := by simp
                refine comes2_value (v' := .slice (some ⟨w.heap.size, 0, none⟩) n.toNat n.toNat) (w' := { w with heap := w.heap.push (.cells ((Array.range (n.toNat * sz)).map (fun i => zv.cells[i % zv.cells.size]!)) e) }) ?_
                  (out_row hH (by rw [hcells]; exact RL.of_flat (zeroes_flat hk3 _)) (flat_one1 (zeroes_flat hk3 _)) fun ν hν => sl_new (by rw [hν, hcsz]) (ext_new A H.next) (Nat.le_refl _) hk2)
                rw [e1, e2]
                unfold Instr.makeSlice
                simp only [Sem.run_bind, und_run (elem_und he), Result.andThen_ok, asInt, asIntOf, Sem.run_pure, hi, hib, hwr]
                have c1 : (decide (n < 0) || decide ((by_ : Int) * n > 2 ^ 48)) = false := by
                  simp; omega
                have c2 : (decide (n < 0) || decide ((by_ : Int) * n > 2 ^ 48) || decide (n < 0) || decide (n > n)) = false := by
                  rw [c1]; simp; omega
                simp only [c2, Bool.false_eq_true, if_false, Sem.run_bind, run_askRoom, Result.andThen_ok, sz_run hs]
                by_cases hz0 : n.toNat * sz = 0
                · simp only [hz0, if_true, Sem.run_bind, Sem.run_pure, Result.andThen_ok, newRow, run_newObj]
                  have e0 : ∀ f : Nat → Value, Array.map f (Array.range 0) = #[] := fun f => Array.ext' (by simp)
                  rw [e0, e0]
                · simp only [hz0, if_false, Sem.run_bind, hzr, Sem.run_pure, Result.andThen_ok, newRow, run_newObj]
              · cases h
            · cases h
          · cases hc
        · cases hc
      · cases hc
    · cases hc
  case slice ty' x lo hi mx =>
    cases mx with
    | some q => cases hc
    | none =>
      simp only at hc
      split at hc
      · split at hc
        · split at hc <;> cases hc
        · cases hc
      · cases hc
  case fieldAddr s x i =>
    split at hc
    · split at hc
      · split at hc
        · split at hc <;> cases hc
        · cases hc
      · cases hc
    · cases hc
  case field s x i =>
    split at hc
    · split at hc
      · split at hc <;> cases hc
      · cases hc
    · cases hc
  case indexAddr ty' x i =>
    split at hc
    · split at hc <;> cases hc
    · cases hc
  case extract x i => simp only [Option.map_eq_some_iff] at hc; obtain ⟨y, _, e⟩ := hc; cases e
  case makeFunc fn first cap =>
    cases fn <;> simp only at hc <;> try cases hc
    split at hc <;> cases hc
  case call c =>
    obtain ⟨b, as, hcal, has, hb⟩ := callOf_h hc hq
    have hl := mapO_rl hT has
    have hargs : (c.args.map a.eval).toList = c.args.toList.map a.eval := Array.toList_map
    rcases hb with ⟨rfl, ty', e, sz, by_, z, x, y, hty, he, hs, hby, hz, hzl, rfl, rfl⟩ | ⟨rfl, ty', e, sz, z, x, hty, he, hs, hz, hzl, hzf, hsz, rfl, rfl⟩
    · obtain ⟨v', w', hv', hr1, hr2⟩ := RL.two hl
      have hr1 : RV μ A (x.ev t) v' := hr1
      have hr2 : RV μ A (y.ev t) w' := hr2
      have ha' : c.args.map a.eval = #[v', w'] := Array.ext' (by rw [hargs, hv'])
      simp only [hop] at h
      obtain ⟨r', W, hrun, hout⟩ := append_sound (ty := ty) hH he hs hby hz hzl hr1 hr2 h
      refine ⟨.value r', r', W, ?_, .inl rfl, hout⟩
      simp [execOp, resolve, hcal, ha', hty, invoke, builtin, hrun]
    · obtain ⟨v', hv', hr⟩ := RL.one hl
      have hr : RV μ A (x.ev t) v' := hr
      have ha' : c.args.map a.eval = #[v'] := Array.ext' (by rw [hargs, hv'])
      simp only [hop] at h
      split at h
      · rename_i id off len m hq
        rw [hq] at hr
        split at h
        · rename_i h0
          subst h0
          simp only [Option.some.injEq, Prod.mk.injEq] at h
          obtain ⟨rfl, rfl⟩ := h
          have key : ∃ ad c, v' = .slice ad 0 c := by
            cases hr <;> exact ⟨_, _, rfl⟩
          obtain ⟨ad, c', rfl⟩ := key
          refine ⟨.value (.tuple #[]), .tuple #[], w, ?_, .inl rfl, Out.of_same hH RV.undef⟩
          cases ad <;> simp [execOp, resolve, hcal, ha', hty, invoke, builtin, Builtin.clear_, und_run (elem_und he)]
        · rename_i h0
          split at h
          · rename_i o ho
            split at h
            · rename_i hk
              simp only [Option.some.injEq, Prod.mk.injEq] at h
              obtain ⟨rfl, rfl⟩ := h
              obtain ⟨zv, hzv, hzr⟩ := zero_run hz
              obtain ⟨ho1, _, ho2⟩ := hH.ob id o ho
              obtain ⟨hoff, cb, eb, hcb, hcbs, hcl, hcc⟩ := ho2 hk.1
              have hzs : zv.cells.size = sz := by rw [← hzl, ← hzv, Array.length_toList]
              have key : ∃ c, v' = .slice (some ⟨(μ id).blk, (μ id).off + off, none⟩) len c := by
                cases hr with
                | slFull _ _ _ c _ _ _ _ _ => exact ⟨c, rfl⟩
                | slAny _ _ _ c _ _ => exact ⟨c, rfl⟩
                | slZ _ _ _ _ _ _ => exact absurd rfl h0
              obtain ⟨c', rfl⟩ := key
              have hvs : (Builtin.zeroCells zv.cells len).toList = zeroes z len := by rw [zeroes_cells _ (by omega), hzv]
              have hvl : (zeroes z len).length = len * sz := by rw [zeroes_length, hzl]
              obtain ⟨W, c2, hrun, hp, hc2, hcs2⟩ := storeCells_run (P := P) (off := (μ id).off + off) (zeroes z len) 0 cb w hcb (by omega) (fun u hu => by
                have := List.all_eq_true.1 (flat_one1 (zeroes_flat hzf len)) u hu
                exact RV.one1 this (RV.of_flat (μ := μ) (A := A) (List.all_eq_true.1 (zeroes_flat hzf len) u hu)))
              rw [hoff] at hc2
              simp only [Nat.zero_add, Nat.add_zero] at hc2
              have hspo : (splice o.cells off (zeroes z len)).length = o.cells.length := splice_length (by omega)
              refine ⟨.value (.tuple #[]), .tuple #[], W, ?_, .inl rfl, μ, Ext.put (e := eb) hH ho hk.1 (cs := splice o.cells off (zeroes z len)) hp (by rw [hcs2, hcbs]) (by rw [hcs2, hspo]; exact hcl) (fun j u hu => ?_) ?_, RV.undef⟩
              · cases len with
                | zero => exact absurd rfl h0
                | succ len => simp [execOp, resolve, hcal, ha', hty, invoke, builtin, Builtin.clear_, und_run (elem_und he), hzr, hvs, hrun]
              · rw [← Array.getElem?_toList, hc2, splice_get (by have := Array.length_toList (xs := cb); omega)]
                rw [splice_get (by omega)] at hu
                by_cases hjl : j < off
                · rw [if_pos hjl] at hu ⊢
                  obtain ⟨u', h5, h6⟩ := hcc j u hu
                  exact ⟨u', by rw [Array.getElem?_toList]; exact h5, h6⟩
                · rw [if_neg hjl] at hu ⊢
                  by_cases hj2 : j < off + (zeroes z len).length
                  · rw [if_pos hj2] at hu ⊢
                    exact ⟨u, hu, RV.of_flat (List.all_eq_true.1 (zeroes_flat hzf len) u (List.mem_of_getElem? hu))⟩
                  · rw [if_neg hj2] at hu ⊢
                    obtain ⟨u', h5, h6⟩ := hcc j u hu
                    exact ⟨u', by rw [Array.getElem?_toList]; exact h5, h6⟩
              · have h1s := flat_one1 (zeroes_flat hzf len)
                rw [List.all_eq_true]
                intro x hx
                simp only [splice, List.mem_append] at hx
                rw [List.all_eq_true] at ho1 h1s
                rcases hx with (hx | hx) | hx
                · exact ho1 x (List.mem_of_mem_take hx)
                · exact h1s x hx
                · exact ho1 x (List.mem_of_mem_drop hx)
            · cases h
          · cases h
      · cases h
  all_goals cases hc
end
end Go.Proofs.Ytcofdkcccggmjaa.Am
