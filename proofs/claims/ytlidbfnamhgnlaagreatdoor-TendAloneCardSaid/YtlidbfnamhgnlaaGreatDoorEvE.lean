/- Each operation of the evaluator is what the machine does: reading. -/
import Derived.Test.YtlidbfnamhgnlaaGreatDoorEvD
namespace Go.Ev
open Go

theorem flat_length {sz : Nat} : ∀ {xs : List AV}, Wf sz xs → (flat xs).length = xs.length * sz := by
  intro xs
  induction xs with
  | nil => intro _; simp [flat]
  | cons x xs ih =>
    intro h
    have h1 := (h x (by simp)).1
    have h2 := ih (fun y hy => h y (by simp [hy]))
    simp only [flat, List.flatMap_cons, List.length_append, List.length_cons] at h2 ⊢
    rw [h1, h2, Nat.add_mul]; omega

theorem flat_get {sz : Nat} : ∀ {xs : List AV}, Wf sz xs → ∀ (i j : Nat) (hi : i < xs.length), j < sz → (flat xs)[i * sz + j]? = (xs[i]).cells[j]? := by
  intro xs
  induction xs with
  | nil => intro _ i j hi; simp at hi
  | cons x xs ih =>
    intro h i j hi hj
    have h1 := (h x (by simp)).1
    have hw : Wf sz xs := fun y hy => h y (by simp [hy])
    simp only [flat, List.flatMap_cons]
    cases i with
    | zero => rw [List.getElem?_append_left (by omega)]; simp
    | succ i =>
      rw [List.getElem?_append_right (by rw [h1, Nat.add_mul]; omega), h1]
      have := ih hw i j (by simp at hi; omega) hj
      simp only [flat] at this
      rw [show (i + 1) * sz + j - sz = i * sz + j by rw [Nat.add_mul]; omega, this]
      simp

theorem flat_append (xs ys : List AV) : flat (xs ++ ys) = flat xs ++ flat ys := by simp [flat]

theorem flat_scalar {sz : Nat} {xs : List AV} (h : Wf sz xs) : ∀ x ∈ flat xs, scalar x = true := by
  intro x hx
  simp only [flat, List.mem_flatMap] at hx
  obtain ⟨y, hy, hx⟩ := hx
  have := (h y hy).2
  simp only [okCells, List.all_eq_true] at this
  exact this x hx

theorem Wf.nil (sz : Nat) : Wf sz [] := fun x hx => by simp at hx
theorem Wf.append {sz : Nat} {xs ys : List AV} (h : Wf sz xs) (k : Wf sz ys) : Wf sz (xs ++ ys) := fun x hx => by
  rcases List.mem_append.1 hx with hx | hx
  · exact h x hx
  · exact k x hx
theorem Wf.sub {sz : Nat} {xs ys : List AV} (h : Wf sz xs) (k : ∀ x ∈ ys, x ∈ xs) : Wf sz ys := fun x hx => h x (k x hx)

/-- What a slice that may be read has in memory. -/
theorem sl_cells {X : Ctx} {c : Cap} {s : Nat} {xs : List AV} {a : Option Addr} {n m : Nat} (hs : RelV X (.sl c s xs) (.slice a n m)) (hok : okc X.gens c = true) :
    n = xs.length ∧ Wf s xs ∧ (xs ≠ [] → ∃ b off, a = some ⟨b, off, none⟩ ∧ ∃ vals : Nat → Value, (∀ i, i < (flat xs).length → X.w.cell? ⟨b, off + i, none⟩ = some (vals i)) ∧
      ∀ i (h : i < (flat xs).length), RelV X ((flat xs)[i]) (vals i)) := by
  cases hs with
  | slnil => exact ⟨rfl, Wf.nil _, fun h => absurd rfl h⟩
  | slro0 => exact ⟨rfl, Wf.nil _, fun h => absurd rfl h⟩
  | slro _ _ b off _ vals hw hm ho hb hc hr => exact ⟨rfl, hw, fun _ => ⟨b, off, rfl, vals, hc, hr⟩⟩
  | slstale τ g o _ _ _ _ hg => simp only [okc, beq_iff_eq] at hok; omega
  | slfam0 => exact ⟨rfl, Wf.nil _, fun h => absurd rfl h⟩
  | slfam τ g o _ _ b base _ vals hg hf ho hb hw hm hroom hfr hc hr => exact ⟨rfl, hw, fun _ => ⟨b, _, rfl, vals, hc, hr⟩⟩

theorem sl_len {X : Ctx} {c : Cap} {s : Nat} {xs : List AV} {v : Value} (hs : RelV X (.sl c s xs) v) : ∃ a m, v = .slice a xs.length m ∧ xs.length ≤ m ∧ (xs ≠ [] → ∃ b off, a = some ⟨b, off, none⟩) := by
  cases hs with
  | slnil => exact ⟨_, _, rfl, Nat.le_refl _, fun h => absurd rfl h⟩
  | slro0 _ a m => exact ⟨_, _, rfl, Nat.zero_le _, fun h => absurd rfl h⟩
  | slro _ _ b off m _ _ hm => exact ⟨_, _, rfl, hm, fun _ => ⟨b, off, rfl⟩⟩
  | slstale τ g o _ _ a m hg hm ha => exact ⟨_, _, rfl, hm, ha⟩
  | slfam0 => exact ⟨_, _, rfl, Nat.le_refl _, fun h => absurd rfl h⟩
  | slfam τ g o _ _ b base m vals hg hf ho hb hw hm => exact ⟨_, _, rfl, hm, fun _ => ⟨b, _, rfl⟩⟩

/-! ### types -/

theorem run_isAgg {P : Program} {t : TypeId} {ag : Bool} (h : agOf P t = some ag) (w : World) : (isAgg t).run P w = .ok ag w := by
  simp only [agOf, Option.map_eq_some_iff] at h
  obtain ⟨d, hd, rfl⟩ := h
  simp only [isAgg, underlying, Sem.run_bind, run_program, Result.andThen_ok, hd, Sem.run_pure]
  cases d <;> simp

theorem run_sizeOf {P : Program} {t : TypeId} {sz : Nat} (h : szOf P t = some sz) (w : World) : (Go.sizeOf t).run P w = .ok sz w := by
  simp only [szOf, Option.map_eq_some_iff] at h
  obtain ⟨i, hi, rfl⟩ := h
  simp [Go.sizeOf, typeInfo, hi]

theorem run_und {P : Program} {t : TypeId} {d : TypeDesc} (h : P.underlying t = some d) (w : World) : (underlying t).run P w = .ok d w := by
  simp [underlying, h]

theorem run_zero {P : Program} {t : TypeId} {z : AV} (h : zeroOf P t = some z) (w : World) : ∃ v, (zeroValue t).run P w = .ok v w ∧ avOf v = some z ∧
    ∃ i, P.info? t = some i ∧ i.zero = some v := by
  simp only [zeroOf, Option.bind_eq_some_iff] at h
  obtain ⟨v, ⟨i, hi, hz⟩, hv⟩ := h
  exact ⟨v, by simp [zeroValue, typeInfo, hi, hz], hv, i, hi, hz⟩

theorem run_loadVar {P : Program} {t : TypeId} {ag : Bool} {sz : Nat} (hag : agOf P t = some ag) (hsz : szOf P t = some sz) (hok : (ag || decide (sz = 1)) = true)
    (w : World) (b off : Nat) (f : Nat → Value) (hc : ∀ i, i < sz → w.cell? ⟨b, off + i, none⟩ = some (f i)) :
    (loadVar t ⟨b, off, none⟩).run P w = .ok (if ag then .agg ((List.range sz).map f).toArray else f 0) w := by
  simp only [loadVar, Sem.run_bind, run_isAgg hag, Result.andThen_ok]
  cases ag with
  | true =>
    simp only [if_true, Sem.run_bind, run_sizeOf hsz, Result.andThen_ok]
    rw [run_loadCells w _ sz f (fun j hj => by rw [add_at]; exact hc j hj)]
    simp
  | false =>
    simp at hok
    subst hok
    have := hc 0 (by omega)
    simp only [Nat.add_zero] at this
    simp [this]

theorem relV_agg_of {X : Ctx} {cs : List AV} {f : Nat → Value} (n : Nat) (hl : cs.length = n) (hr : ∀ i (h : i < cs.length), RelV X cs[i] (f i)) : RelV X (.agg cs) (.agg ((List.range n).map f).toArray) := by
  subst hl
  refine .agg cs _ (by simp) (fun i hi => ?_)
  have : (((List.range cs.length).map f).toArray).getD i undef = f i := by simp [Array.getD_eq_getD_getElem?, hi]
  rw [this]
  exact hr i hi

/-- A part of cells that are known, as the machine loads it. -/
theorem getR_rel {X : Ctx} {cs : List AV} {f : Nat → Value} {ag : Bool} {off sz : Nat} {v : AV} (hr : ∀ i (h : i < cs.length), RelV X cs[i] (f i)) (hok : (ag || decide (sz = 1)) = true)
    (h : getR ag cs off sz = some v) : off + sz ≤ cs.length ∧ RelV X v (if ag then .agg ((List.range sz).map fun i => f (off + i)).toArray else f off) := by
  unfold getR at h
  cases ag with
  | true =>
    simp only [if_true] at h ⊢
    split at h
    · rename_i hle
      cases h
      refine ⟨hle, relV_agg_of sz (by simp; omega) (fun i hi => ?_)⟩
      simp at hi
      have := hr (off + i) (by omega)
      simpa using this
    · cases h
  | false =>
    simp at hok
    subst hok
    simp only [Bool.false_eq_true, if_false] at h ⊢
    obtain ⟨h1, h2⟩ := List.getElem?_eq_some_iff.1 h
    exact ⟨by omega, h2 ▸ hr off h1⟩

theorem box_cells {γ : Gh} {st : St} {w : World} (hS : RelS γ st w) {id : Nat} {cs : List AV} (hb : st.boxes id = some cs) {b : Nat} (hg : γ.box id = some b) :
    ∃ f : Nat → Value, (∀ i, i < cs.length → w.cell? ⟨b, i, none⟩ = some (f i)) ∧ ∀ i (h : i < cs.length), RelV ⟨γ, st.gens, w⟩ cs[i] (f i) := by
  obtain ⟨_, vs, e, hv, hl, hr⟩ := hS.box id cs b hb hg
  refine ⟨fun i => vs.getD i undef, fun i hi => ?_, hr⟩
  simp only [World.cell?, hv]
  simp [Array.getD_eq_getD_getElem?]
  rw [Array.getElem?_eq_getElem (by omega)]
  simp

theorem sound_load {P : Program} {γ : Gh} {st : St} {w : World} (hS : RelS γ st w) {t : TypeId} {ag : Bool} {sz : Nat} (hag : agOf P t = some ag) (hsz : szOf P t = some sz)
    (hok : (ag || decide (sz = 1)) = true) {x v : AV} {va : Value} (hx : RelV ⟨γ, st.gens, w⟩ x va) (hev : evLoad st ag sz x = some v) :
    ∃ a u, va = .pointer (some a) ∧ (loadVar t a).run P w = .ok u w ∧ RelV ⟨γ, st.gens, w⟩ v u := by
  cases x with
  | ptr id off =>
    cases hx with
    | ptr _ _ b hb =>
      simp only [evLoad, Option.bind_eq_some_iff] at hev
      obtain ⟨cs, h1, h2⟩ := hev
      obtain ⟨f, hc, hr⟩ := box_cells hS h1 hb
      obtain ⟨hle, hv⟩ := getR_rel hr hok h2
      refine ⟨_, _, rfl, run_loadVar hag hsz hok w b off (fun i => f (off + i)) (fun i hi => hc _ (by omega)), ?_⟩
      simpa using hv
  | ept c s xs i off =>
    cases hx with
    | ept _ _ _ _ _ a n m hs hi =>
      simp only [evLoad] at hev
      split at hev
      · rename_i hcond
        obtain ⟨hk, hos⟩ := hcond
        simp only [Option.bind_eq_some_iff] at hev
        obtain ⟨y, h1, h2⟩ := hev
        obtain ⟨_, hw, hne⟩ := sl_cells hs hk
        obtain ⟨b, o, ha, vals, hc, hr⟩ := hne (by rintro rfl; simp at hi)
        cases ha
        have hy : y = xs[i] := by rw [List.getElem?_eq_getElem hi] at h1; exact (Option.some.inj h1).symm
        subst hy
        have hcl := (hw xs[i] (List.getElem_mem hi)).1
        have hfl := flat_length hw
        have hidx : ∀ j, j < s → i * s + j < (flat xs).length := fun j hj => by
          rw [hfl]
          have : (i + 1) * s ≤ xs.length * s := Nat.mul_le_mul_right _ hi
          rw [Nat.add_mul] at this; omega
        have hr' : ∀ j (h : j < (xs[i]).cells.length), RelV ⟨γ, st.gens, w⟩ (xs[i]).cells[j] (vals (i * s + j)) := fun j hj => by
          have h3 := hr (i * s + j) (hidx j (by omega))
          have h4 := flat_get hw i j hi (by omega)
          rw [List.getElem?_eq_getElem (hidx j (by omega)), List.getElem?_eq_getElem hj] at h4
          rw [Option.some.inj h4] at h3
          exact h3
        obtain ⟨hle, hv⟩ := getR_rel hr' hok h2
        refine ⟨_, (if ag then .agg ((List.range sz).map fun j => vals (i * s + (off + j))).toArray else vals (i * s + off)), rfl, ?_, ?_⟩
        · rw [add_at]
          have := run_loadVar hag hsz hok w b (o + (i * s + off)) (fun j => vals (i * s + (off + j))) (fun j hj => by
            have := hc (i * s + (off + j)) (hidx (off + j) (by omega))
            rwa [show o + (i * s + off) + j = o + (i * s + (off + j)) by omega])
          simpa using this
        · exact hv
      · cases hev
  | _ => simp [evLoad] at hev

end Go.Ev
