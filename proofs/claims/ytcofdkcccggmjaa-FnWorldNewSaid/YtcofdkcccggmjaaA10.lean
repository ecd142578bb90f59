/- The abstract machine is sound: regions, code, calls. -/
import Derived.Test.YtcofdkcccggmjaaA9
namespace Go.Proofs.Ytcofdkcccggmjaa.Am
open Go

section
variable {P : Program} {cf : CF} {N : Nat} {ops : Array Oper} {R : Reg P cf N ops} {listed : Array Bool} {μ : Nat → Loc} {a : Act} {w : World}
namespace Reg

/-- One operation in whatever order. -/
theorem DI.op {Q : Exit → Act → World → Prop} {K : Act → World → Prop} (D : DI R listed μ a w) {i : Nat} (hr : i ∈ Region.ready .any ops listed) (hK : ∀ ν a' w', DI R (listed.setIfInBounds i true) ν a' w' → K a' w') :
    wpOp P ops Q i K a w := by
  obtain ⟨hi, hnL, hbf⟩ := R.ready_bf D hr
  obtain ⟨_, o, ho, _⟩ := mem_ready.1 hr
  obtain ⟨ao, hao, hcomp⟩ := R.ao_at ho
  obtain ⟨hg, hop, hdd, hdN⟩ := aoOf_inv hcomp
  have hdN' : ∀ k, ao.d = some k → k < N := by rw [hdd]; exact hdN
  have hT := seen_rt D hi hnL hbf hao
  have hus : ∀ x ∈ ao.us, R.p.tt i x = seen ao.us (R.p.tt i) x := by
    intro x hx
    simp only [seen]
    rw [if_pos hx]
  have hwc : wanted ao.g (R.p.tt i) = wanted ao.g (seen ao.us (R.p.tt i)) := wanted_congr fun x hx => hus x (by unfold AO.us; exact List.mem_append_left _ hx)
  unfold wpOp
  rw [ho]
  simp only
  rcases R.p.done i ao hao with ⟨h1, h2, h3, h4⟩ | ⟨h1, ⟨p, hp, hpv⟩, h3, h4⟩ | ⟨h1, ⟨n, x, id, off, hq, hx, hl, h3⟩, h4⟩ | ⟨h1, q, X, hq, hX, h3, h4⟩
  · rw [hwc] at h1
    rw [wanted_eq hT hg h1, if_neg (by simp), ← hdd]
    exact hK μ _ _ (DI.pure D hi hnL hbf hao hdN' (by rw [h3]; rfl) h4 (by rw [h2]; exact RV.undef))
  · rw [hwc] at h1
    rw [wanted_eq hT hg h1, if_pos rfl]
    have hpv' : pop P (seen ao.us (R.p.tt i)) p = some (R.p.v i) := by
      rw [← pop_congr fun x hx => hus x (by unfold AO.us; rw [hp]; exact List.mem_append_right _ hx)]; exact hpv
    rw [hp] at hop
    obtain ⟨v', hrun, hrv⟩ := pop_sound hT hop hpv'
    refine .inl ?_
    unfold Oper.wp
    rw [hrun w]
    show K (a.put o.dst v') w
    rw [← hdd]
    exact hK μ _ _ (DI.pure D hi hnL hbf hao hdN' (by rw [h3]; rfl) h4 hrv)
  · rw [hwc] at h1
    rw [wanted_eq hT hg h1, if_pos rfl]
    have hx' : x.ev (seen ao.us (R.p.tt i)) = .pointer (some ⟨id, off, none⟩) := by
      rw [← hx]
      exact (X.congr fun y hy => hus y (by unfold AO.us; rw [hq]; exact List.mem_append_right _ hy)).symm
    have hl' : ldA ⟨R.nx i, fun j => if j = id then R.B i j else none⟩ n id off = some (R.p.v i) := by
      rw [← hl]
      unfold ldA ldCells
      simp only [if_true]
      rfl
    rw [hq] at hop
    refine .inl (ld_wp hT (B_rel1 D hi hnL hbf (rid := id) (by rw [h3])) hop hx' hl' fun v' hrv => ?_)
    rw [← hdd]
    exact hK μ _ _ (DI.pure D hi hnL hbf hao hdN' (by rw [h3]; rfl) h4 hrv)
  · rw [hwc] at h1
    rw [wanted_eq hT hg h1, if_pos rfl]
    have hX' : aopRun P cf (seen ao.us (R.p.tt i)) ⟨R.nx i, R.B i⟩ ao.op = some (R.p.v i, X) := by
      rw [hq]
      simp only [aopRun]
      rw [← hop_congr fun x hx => hus x (by unfold AO.us; rw [hq]; exact List.mem_append_right _ hx)]
      exact hX
    refine .inl (op_wp R.hcf hT (B_rel D hi hnL hbf (by rw [h3])) hop hX' fun v' w' hout => ?_)
    obtain ⟨ν, hD⟩ := DI.heap D hi hnL hbf hao hdN' h3 h4 hout
    rw [hdd] at hD
    exact hK ν _ _ hD

def cnt (listed : Array Bool) : Nat := (listed.toList.filter fun b => !b).length
theorem cnt_set {i : Nat} (h : listed[i]? = some false) : cnt (listed.setIfInBounds i true) + 1 = cnt listed := by
  unfold cnt
  rw [Array.toList_setIfInBounds]
  have h' : listed.toList[i]? = some false := by simpa using h
  generalize listed.toList = l at *
  clear h
  induction l generalizing i with
  | nil => simp at h'
  | cons b r ih =>
    cases i with
    | zero => simp at h'; subst h'; simp
    | succ i =>
      simp only [List.getElem?_cons_succ] at h'
      simp only [List.set_cons_succ, List.filter_cons]
      have := ih h'
      split
      · simp only [List.length_cons]; omega
      · exact this

/-- Nothing is ready when all is done. -/
theorem all_of_ready (D : DI R listed μ a w) (h : Region.ready .any ops listed = []) : ∀ i, i < R.n → R.L listed i := by
  intro i
  induction i using Nat.strongRecOn with
  | _ i ih =>
    intro hi
    by_cases hL : R.L listed i
    · exact hL
    · exfalso
      have hsz : i < ops.size := by rw [← R.n_size]; exact hi
      have hmem : i ∈ Region.ready .any ops listed := by
        refine mem_ready.2 ⟨?_, ops[i], Array.getElem?_eq_getElem hsz, fun e he hb => ?_⟩
        · have : i < listed.size := by rw [D.sz]; exact hi
          unfold L at hL
          simp only [Array.getD_eq_getD_getElem?, Array.getElem?_eq_getElem this, Option.getD_some] at hL ⊢
          simpa using hL
        · have hon := R.hb.lt i e.on (R.hb.edge i _ (Array.getElem?_eq_getElem hsz) e he hb)
          exact ih e.on hon (by omega)
      rw [h] at hmem
      cases hmem

theorem wpAny_of {Q : Exit → Act → World → Prop} (hQ : ∀ listed μ a w, DI R listed μ a w → (∀ i, i < R.n → R.L listed i) → Q .normal a w) :
    ∀ (fuel : Nat) (listed : Array Bool) (μ : Nat → Loc) (a : Act) (w : World), cnt listed ≤ fuel → DI R listed μ a w → wpAny P .any ops Q fuel listed a w
  | 0, listed, μ, a, w, hc, D => by
    have hall : Region.ready .any ops listed = [] := by
      rw [List.eq_nil_iff_forall_not_mem]
      intro i hi
      obtain ⟨h0, o, ho, _⟩ := mem_ready.1 hi
      have hin : i < R.n := by rw [R.n_size]; exact (Array.getElem?_eq_some_iff.1 ho).1
      have hil : i < listed.size := by rw [D.sz]; exact hin
      have : listed[i]? = some false := by
        simp only [Array.getD_eq_getD_getElem?, Array.getElem?_eq_getElem hil, Option.getD_some] at h0
        rw [Array.getElem?_eq_getElem hil, h0]
      have := cnt_set this
      omega
    exact ⟨hall, hQ listed μ a w D (all_of_ready D hall)⟩
  | fuel + 1, listed, μ, a, w, hc, D => by
    refine ⟨fun h => hQ listed μ a w D (all_of_ready D h), fun i hi => DI.op D hi fun ν a' w' D' => wpAny_of hQ fuel _ ν a' w' ?_ D'⟩
    obtain ⟨h0, o, ho, _⟩ := mem_ready.1 hi
    have hin : i < R.n := by rw [R.n_size]; exact (Array.getElem?_eq_some_iff.1 ho).1
    have hil : i < listed.size := by rw [D.sz]; exact hin
    have : listed[i]? = some false := by
      simp only [Array.getD_eq_getD_getElem?, Array.getElem?_eq_getElem hil, Option.getD_some] at h0
      rw [Array.getElem?_eq_getElem hil, h0]
    have := cnt_set this
    omega

/-- The invariant at the begin. -/
theorem DI.start (hT : RT R.μ0 R.A0 N R.t0 a) (hd : a.defers = []) (hw : w = { R.w0 with drawn := w.drawn }) : DI R (Array.replicate ops.size false) R.μ0 a w := by
  have hLf : ∀ i, ¬ R.L (Array.replicate ops.size false) i := by
    intro i h
    unfold L at h
    simp only [Array.getD_eq_getD_getElem?, Array.getElem?_replicate] at h
    split at h <;> simp at h
  have hG : ∀ id, R.G (Array.replicate ops.size false) id = R.g0 id := fun id => R.G_none fun j _ hL _ => hLf j hL
  have hheap : w.heap = R.w0.heap := by rw [hw]
  refine ⟨by rw [R.n_size]; simp, fun i j h => absurd h (hLf i), hT.size, hd, fun x => .inr ⟨fun i ao h => absurd h (hLf i), hT.at_ x⟩, fun _ _ => rfl, by rw [hw], by rw [hw], by rw [hw], by rw [hheap]; exact Nat.le_refl _, fun b _ _ => by rw [hheap],
    fun id o h => .inl (R.h0.dom id o (by rw [← h]; exact (hG id).symm)), fun id o h => by rw [hheap]; exact R.h0.blk id o (by rw [← h]; exact (hG id).symm), fun id o h => ?_, fun id id' o o' h h' => R.h0.inj id id' o o' (by rw [← h]; exact (hG id).symm) (by rw [← h']; exact (hG id').symm),
    fun id o h hr => ⟨o, by rw [← h]; exact (hG id).symm, hr⟩, fun id o h hr => .inr ⟨id, o, by rw [← h]; exact (hG id).symm, hr, rfl⟩, fun j _ h => absurd h (hLf j)⟩
  have := R.h0.ob id o (by rw [← h]; exact (hG id).symm)
  refine (this.world (w' := w) (by rw [hheap])).change fun c _ u hu => hu.mono (fun k hk => .inl hk) (fun _ _ => rfl)

/-- The invariant at the end: what the text's order came to. -/
theorem DI.finish (D : DI R listed μ a w) (hall : ∀ i, i < R.n → R.L listed i) : After R.μ0 R.A0 N ⟨R.n0, R.g0⟩ R.w0 ⟨R.p.tt R.n, ⟨R.nx R.n, heapAt R.n0 R.g0 R.rs (List.range R.n)⟩⟩ a w := by
  have hLL : R.LL listed = List.range R.n := by
    unfold LL
    rw [List.filter_eq_self]
    intro j hj
    exact hall j (List.mem_range.1 hj)
  have hG : heapAt R.n0 R.g0 R.rs (List.range R.n) = R.G listed := by unfold G; rw [hLL]
  have hsub : ∀ id, R.AS listed id → ext R.A0 R.n0 (R.nx R.n) id := by
    rintro id (h | ⟨k, h1, _, h2⟩)
    · exact .inl h
    · exact .inr ⟨R.rng_ge h1 h2, Nat.lt_of_lt_of_le h2.2 (R.nx_le (by omega) (Nat.le_refl _))⟩
  have hle : R.n0 ≤ R.nx R.n := R.n0_le (Nat.le_refl _)
  rw [hG]
  refine ⟨D.dfr, μ, ⟨D.agree, hle, ⟨fun id h => ?_, fun id o h => hsub id (D.dom id o h), D.blk, fun id o h => (D.ob id o h).change fun c _ u hu => hu.mono hsub (fun _ _ => rfl), D.inj⟩, D.os, D.tape, D.output, D.sizeW, D.frame, D.roo, D.own⟩, D.size, fun x => ?_⟩
  · rcases h with h | h
    · exact Nat.lt_of_lt_of_le (R.h0.lt id h) hle
    · exact h.2
  · rcases D.tmp x with ⟨i, ao, hi, hL, hao, hd, hmax, hr⟩ | ⟨hno, hr⟩
    · rcases tt_last R x R.n (Nat.le_refl _) with ⟨j, aj, h1, h2, h3, h4, h5⟩ | ⟨h1, _⟩
      · have e1 := hmax j aj (hall j h1) h2 h3
        have e2 := h4 i ao hi hao hd
        have : j = i := by omega
        subst this
        show RV μ _ (R.p.tt R.n x) _
        rw [h5]
        exact hr.mono (fun id h => hsub id (Aout_AS D hi hL h)) (fun _ _ => rfl)
      · exact absurd hd (h1 i ao hi hao)
    · rcases tt_last R x R.n (Nat.le_refl _) with ⟨j, aj, h1, h2, h3, h4, h5⟩ | ⟨_, h2⟩
      · exact absurd h3 (hno j aj (hall j h1) h2)
      · show RV μ _ (R.p.tt R.n x) _
        rw [h2]
        exact hr.mono (fun id h => .inl h) (fun _ _ => rfl)
end Reg

/-- A region whose order is open. -/
theorem draw_wp {Q : Exit → Act → World → Prop} {A : Nat → Prop} {s : St} {id : Nat} (hm : P.follows .mixedOrders = true) (hcf : SoundC P cf) {os : List AO} {bs : List (List Nat)} (hos : mapO (aoOf P N ops) ops.toList = some os) (hbs : befs 0 ops.toList [] = some bs) (hap : apartOk os bs = true)
    {d : DS} (h : draws P cf s.H.next s.H.get (doOf os bs) ⟨s.t, [], s.H.next⟩ = some d) (hok : okAll ((doOf os bs).map (·.bef)) d.rs) (hd : a.defers = []) (hT : RT μ A N s.t a) (hH : RelH μ A s.H w)
    (hQ : ∀ a' w', After μ A N s.H w (d.done s.H.next s.H.get) a' w' → Q .normal a' w') : (Code.region id ops true).wp P Q a w := by
  have hb := befs_ok0 hbs
  obtain ⟨p, hp1, hp2, hp3⟩ := plan_of hb (by rw [hb.len, (mapO_at hos).1.symm, Array.length_toList]) h hok
  let R : Reg P cf N ops := ⟨os, bs, s.H.next, s.H.get, s.t, μ, A, w, hcf, hos, hb, hap, p, hH⟩
  refine wp_region_any hm (Reg.wpAny_of (R := R) (fun listed μ' a' w' D hall => ?_) _ _ μ a _ ?_ (Reg.DI.start (R := R) hT hd rfl))
  · have := Reg.DI.finish D hall
    refine hQ a' w' ?_
    have e : d.done s.H.next s.H.get = ⟨R.p.tt R.n, ⟨R.nx R.n, heapAt R.n0 R.g0 R.rs (List.range R.n)⟩⟩ := by
      unfold DS.done
      rw [hp1, hp2, hp3]
      simp only [List.length_map, List.length_range]
      rfl
    rw [e]
    exact this
  · unfold Reg.cnt
    simp
end
end Go.Proofs.Ytcofdkcccggmjaa.Am
