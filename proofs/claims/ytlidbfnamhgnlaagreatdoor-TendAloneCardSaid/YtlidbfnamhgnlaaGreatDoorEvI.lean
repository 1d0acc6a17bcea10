/- Each operation of the evaluator is what the machine does: slices cut. -/
import Derived.Test.YtlidbfnamhgnlaaGreatDoorEvH
namespace Go.Ev
open Go

theorem flat_take {sz : Nat} : ∀ {xs : List AV}, Wf sz xs → ∀ n, flat (xs.take n) = (flat xs).take (n * sz) := by
  intro xs
  induction xs with
  | nil => intro _ n; simp [flat]
  | cons x xs ih =>
    intro h n
    have h1 := (h x (by simp)).1
    have hw : Wf sz xs := fun y hy => h y (by simp [hy])
    cases n with
    | zero => simp [flat]
    | succ n =>
      have := ih hw n
      simp only [flat] at this
      simp only [flat, List.take_succ_cons, List.flatMap_cons, this]
      rw [List.take_append, List.take_of_length_le (l := x.cells) (by rw [h1, Nat.add_mul]; omega), h1]
      congr 2
      rw [Nat.add_mul]; omega

theorem flat_drop {sz : Nat} : ∀ {xs : List AV}, Wf sz xs → ∀ n, flat (xs.drop n) = (flat xs).drop (n * sz) := by
  intro xs
  induction xs with
  | nil => intro _ n; simp [flat]
  | cons x xs ih =>
    intro h n
    have h1 := (h x (by simp)).1
    have hw : Wf sz xs := fun y hy => h y (by simp [hy])
    cases n with
    | zero => simp [flat]
    | succ n =>
      have := ih hw n
      simp only [flat] at this
      simp only [flat, List.drop_succ_cons, List.flatMap_cons, this]
      rw [List.drop_append, List.drop_eq_nil_of_le (as := x.cells) (by rw [h1, Nat.add_mul]; omega), h1]
      simp only [List.nil_append]
      congr 1
      rw [Nat.add_mul]; omega

theorem Wf.take {sz : Nat} {xs : List AV} (h : Wf sz xs) (n : Nat) : Wf sz (xs.take n) := h.sub fun _ hx => List.mem_of_mem_take hx
theorem Wf.drop {sz : Nat} {xs : List AV} (h : Wf sz xs) (n : Nat) : Wf sz (xs.drop n) := h.sub fun _ hx => List.mem_of_mem_drop hx

theorem flat_cut {sz : Nat} {xs : List AV} (h : Wf sz xs) (l n : Nat) : flat ((xs.take n).drop l) = ((flat xs).take (n * sz)).drop (l * sz) := by
  rw [flat_drop (h.take n), flat_take h]

theorem run_sliceBound {P : Program} {X : Ctx} {x : AV} {v : Value} (w : World) (hx : RelV X x v) {n y : Nat} (h : natOf x = some n) (hn : n ≤ y) (code : BoundsCode) :
    (Instr.sliceBound v y code).run P w = .ok n w := by
  cases x <;> simp only [natOf, reduceCtorEq] at h
  split at h
  · rename_i h0
    cases hx
    simp at h
    subst h
    simp only [Instr.sliceBound, asIntOf, Sem.run_bind, Sem.run_pure, Result.andThen_ok]
    rw [if_pos ⟨h0, by omega⟩]
    rfl
  · cases h

def RelO (X : Ctx) : Option AV → Option Value → Prop
  | none, none => True
  | some x, some v => RelV X x v
  | _, _ => False

theorem run_bounds {P : Program} {X : Ctx} (w : World) (isS : Bool) {len cap l h : Nat} {lo hi : Option AV} {vlo vhi : Option Value} (hlo : RelO X lo vlo) (hhi : RelO X hi vhi)
    (el : bnd 0 lo = some l) (eh : bnd len hi = some h) (hlh : l ≤ h) (hhc : h ≤ cap) : (Instr.sliceBounds isS len cap vlo vhi none).run P w = .ok (l, h, cap) w := by
  have last : ∀ vl : Option Value, RelO X lo vl → (match vl with
      | some v => do
        let l ← Instr.sliceBound v h (if (none : Option Value).isSome = true then BoundsCode.slice3C else BoundsCode.sliceB)
        pure (l, h, cap)
      | none => do
        let l ← pure 0
        pure (l, h, cap) : Sem (Nat × Nat × Nat)).run P w = .ok (l, h, cap) w := by
    intro vl hl
    cases lo with
    | none =>
      cases vl with
      | none => simp [bnd] at el; subst el; rfl
      | some v => exact hl.elim
    | some x =>
      cases vl with
      | none => exact hl.elim
      | some v =>
        simp only [Sem.run_bind]
        rw [run_sliceBound w hl el hlh]
        rfl
  simp only [Instr.sliceBounds, Sem.run_bind, Sem.run_pure, Result.andThen_ok]
  cases hi with
  | none =>
    cases vhi with
    | none => simp [bnd] at eh; subst eh; simp only [Sem.run_bind, Sem.run_pure, Result.andThen_ok]; exact last vlo hlo
    | some v => exact hhi.elim
  | some x =>
    cases vhi with
    | none => exact hhi.elim
    | some v => simp only [Sem.run_bind]; rw [run_sliceBound w hhi eh hhc]; exact last vlo hlo

theorem run_bounds3 {P : Program} {X : Ctx} (w : World) (isS : Bool) {len cap l h m : Nat} {lo : Option AV} {hi mx : AV} {vlo : Option Value} {vhi vmx : Value} (hlo : RelO X lo vlo) (hhi : RelV X hi vhi) (hmx : RelV X mx vmx)
    (el : bnd 0 lo = some l) (eh : natOf hi = some h) (em : natOf mx = some m) (hlh : l ≤ h) (hhm : h ≤ m) (hmc : m ≤ cap) : (Instr.sliceBounds isS len cap vlo (some vhi) (some vmx)).run P w = .ok (l, h, m) w := by
  simp only [Instr.sliceBounds, Sem.run_bind]
  rw [run_sliceBound w hmx em hmc]
  simp only [Result.andThen_ok, Sem.run_bind]
  rw [run_sliceBound w hhi eh hhm]
  simp only [Result.andThen_ok]
  cases lo with
  | none =>
    cases vlo with
    | none => simp [bnd] at el; subst el; rfl
    | some v => exact hlo.elim
  | some x =>
    cases vlo with
    | none => exact hlo.elim
    | some v =>
      simp only [Sem.run_bind]
      rw [run_sliceBound w hlo el hlh]
      rfl

/-- A part of a slice. -/
theorem relV_cut {X : Ctx} {c : Cap} {s : Nat} {xs : List AV} {a : Option Addr} {n m : Nat} (hs : RelV X (.sl c s xs) (.slice a n m)) {l h m' sz : Nat} (hlh : l ≤ h) (hh : h ≤ xs.length) (hm : h ≤ m') (hm' : m' ≤ m)
    (hsz : s = sz ∨ c = .nil ∨ (c = .ro ∧ xs = [])) : RelV X (.sl (c.shift l) s ((xs.take h).drop l)) (.slice (if m' = l then a else a.map (·.add (l * sz))) (h - l) (m' - l)) := by
  have hlen : ((xs.take h).drop l).length = h - l := by simp; omega
  cases hs with
  | slnil =>
    simp at hh; subst hh
    obtain rfl : l = 0 := by omega
    obtain rfl : m' = 0 := by omega
    simp [Cap.shift]; exact .slnil _
  | slro0 =>
    simp at hh; subst hh
    obtain rfl : l = 0 := by omega
    simp [Cap.shift]; exact .slro0 _ _ _
  | slro _ _ b off _ vals hw hmm ho hb hc hr =>
    by_cases hx0 : xs = []
    · subst hx0
      simp at hh; subst hh
      obtain rfl : l = 0 := by omega
      simp [Cap.shift]; exact .slro0 _ _ _
    obtain rfl : s = sz := by simpa [hx0] using hsz
    by_cases e : m' = l
    · obtain rfl : h = l := by omega
      rw [List.drop_eq_nil_of_le (by simp; omega)]
      simp [Cap.shift, e]; exact .slro0 _ _ _
    · simp only [if_neg e, Option.map_some, add_at, Cap.shift]
      have hcut := flat_cut hw l h
      have hfl := flat_length hw
      have hls : l * s ≤ h * s := Nat.mul_le_mul_right _ hlh
      have hhs : h * s ≤ xs.length * s := Nat.mul_le_mul_right _ hh
      have := RelV.slro (X := X) s ((xs.take h).drop l) b (off + l * s) (m' - l) (fun i => vals (l * s + i)) ((hw.take h).drop l) (by rw [hlen]; omega) ho hb
        (fun i hi => by
          rw [hcut] at hi; simp at hi
          have := hc (l * s + i) (by omega)
          rwa [show off + l * s + i = off + (l * s + i) by omega])
        (fun i hi => by
          have hi' := hi
          rw [hcut] at hi'; simp at hi'
          have h3 := hr (l * s + i) (by omega)
          have : (flat ((xs.take h).drop l))[i] = (flat xs)[l * s + i]'(by omega) := by simp only [hcut]; simp
          rw [this]; exact h3)
      rwa [hlen] at this
  | slstale τ g o _ _ _ _ hg hmm ha ht =>
    have := RelV.slstale (X := X) τ g (o + l) s ((xs.take h).drop l) (if m' = l then a else a.map (·.add (l * sz))) (m' - l) hg (by rw [hlen]; omega) (fun hne => by
      have hne' : xs ≠ [] := by rintro rfl; simp at hne
      obtain ⟨b, off, rfl⟩ := ha hne'
      split
      · exact ⟨b, off, rfl⟩
      · exact ⟨b, off + l * sz, by simp [add_at]⟩) ht
    rwa [hlen] at this
  | slfam0 τ g o _ _ hg ht =>
    simp at hh; subst hh
    obtain rfl : l = 0 := by omega
    obtain rfl : m' = 0 := by omega
    simp [Cap.shift]; exact .slfam0 _ _ _ _ _ hg ht
  | slfam τ g o _ _ b base _ vals hg hf ho hb hw hmm hroom hfr hc hr ht =>
    obtain rfl : s = sz := by simpa using hsz
    by_cases e : m' = l
    · obtain rfl : h = l := by omega
      rw [List.drop_eq_nil_of_le (by simp; omega)]
      simp [Cap.shift, e]; exact .slfam0 _ _ _ _ _ hg ht
    · simp only [if_neg e, Option.map_some, add_at, Cap.shift]
      have hcut := flat_cut hw l h
      have hfl := flat_length hw
      have hls : l * s ≤ h * s := Nat.mul_le_mul_right _ hlh
      have hhs : h * s ≤ xs.length * s := Nat.mul_le_mul_right _ hh
      have hms : m' * s ≤ m * s := Nat.mul_le_mul_right _ hm'
      have hol : (o + l) * s = o * s + l * s := Nat.add_mul _ _ _
      have hml : (m' - l) * s = m' * s - l * s := Nat.sub_mul _ _ _
      have hlm : l * s ≤ m' * s := Nat.mul_le_mul_right _ (by omega)
      have := RelV.slfam (X := X) τ g (o + l) s ((xs.take h).drop l) b base (m' - l) (fun i => vals (l * s + i)) hg hf ho hb ((hw.take h).drop l) (by rw [hlen]; omega)
        (fun i hi => by
          have := hroom (l * s + i) (by omega)
          rwa [show base + (o + l) * s + i = base + o * s + (l * s + i) by omega])
        (fun i hi => by
          have := hfr (l * s + i) (by omega)
          rwa [show base + (o + l) * s + i = base + o * s + (l * s + i) by omega])
        (fun i hi => by
          rw [hcut] at hi; simp at hi
          have := hc (l * s + i) (by omega)
          rwa [show base + (o + l) * s + i = base + o * s + (l * s + i) by omega])
        (fun i hi => by
          have hi' := hi
          rw [hcut] at hi'; simp at hi'
          have h3 := hr (l * s + i) (by omega)
          have : (flat ((xs.take h).drop l))[i] = (flat xs)[l * s + i]'(by omega) := by simp only [hcut]; simp
          rw [this]; exact h3) ht
      rw [hlen] at this
      rwa [show base + (o + l) * s = base + o * s + l * s by omega] at this

theorem sound_slice {P : Program} {X : Ctx} (w : World) {t e : TypeId} {sz id g : Nat} (ht : P.underlying t = some (.slice e)) (hsz : szOf P e = some sz) {x v : AV} {lo hi mx : Option AV} {vx : Value}
    {vlo vhi vmx : Option Value} (hg : X.gens id = g) (htop : id < X.γ.top) (hx : RelV X x vx) (hlo : RelO X lo vlo) (hhi : RelO X hi vhi) (hmx : RelO X mx vmx) (hmh : mx.isSome = true → hi.isSome = true)
    (h : evSlice id g sz x lo hi mx = some v) : ∃ u, (Instr.sliceAt t vx vlo vhi vmx).run P w = .ok u w ∧ RelV X v u := by
  cases x <;> simp only [evSlice, reduceCtorEq] at h
  rename_i c s xs
  obtain ⟨a, m, rfl, hm, ha⟩ := sl_len hx
  split at h
  · rename_i l h' el eh
    split at h
    · rename_i hcond
      obtain ⟨hlh, hh, hs⟩ := hcond
      simp only [Instr.sliceAt, Sem.run_bind, run_und ht, Result.andThen_ok, Instr.slice]
      cases mx with
      | none =>
        simp at h; subst h
        cases vmx with
        | some v => exact hmx.elim
        | none =>
          rw [run_bounds w true hlo hhi el eh hlh (by omega)]
          simp only [Result.andThen_ok, run_sizeOf hsz, Sem.run_pure]
          exact ⟨_, rfl, relV_cut hx hlh hh (by omega) (Nat.le_refl _) hs⟩
      | some mv =>
        cases vmx with
        | none => exact hmx.elim
        | some vm =>
          cases hi with
          | none => simp at hmh
          | some hv =>
            cases vhi with
            | none => exact hhi.elim
            | some vh =>
              simp only at h
              split at h
              · rename_i m' em
                split at h
                · rename_i hc
                  obtain ⟨hhm, hmx'⟩ := hc
                  rw [run_bounds3 w true hlo hhi hmx el eh em hlh hhm (by omega)]
                  simp only [Result.andThen_ok, run_sizeOf hsz, Sem.run_pure]
                  refine ⟨_, rfl, ?_⟩
                  split at h
                  · rename_i e'
                    simp at h; subst h; subst e'
                    obtain rfl : h' = m' := by omega
                    simp
                    exact .slfam0 _ _ _ _ _ hg htop
                  · simp at h; subst h
                    exact relV_cut hx hlh hh (by omega) (by omega) hs
                · cases h
              · cases h
    · cases h
  · cases h

theorem sound_sliceS {P : Program} {X : Ctx} (w : World) {t : TypeId} (ht : P.underlying t = some .string) {x v : AV} {lo hi : Option AV} {vx : Value}
    {vlo vhi : Option Value} (hx : RelV X x vx) (hlo : RelO X lo vlo) (hhi : RelO X hi vhi)
    (h : evSliceS x lo hi = some v) : ∃ u, (Instr.sliceAt t vx vlo vhi none).run P w = .ok u w ∧ RelV X v u := by
  cases x <;> simp only [evSliceS, reduceCtorEq] at h
  rename_i s
  cases hx
  split at h
  · rename_i l h' el eh
    split at h
    · rename_i hcond
      obtain ⟨hlh, hh⟩ := hcond
      simp at h; subst h
      simp only [Instr.sliceAt, Sem.run_bind, run_und ht, Result.andThen_ok, Instr.slice, Option.isSome_none, Bool.false_eq_true, if_false, Sem.run_pure]
      rw [run_bounds w false hlo hhi el eh hlh hh]
      exact ⟨_, rfl, .str _⟩
    · cases h
  · cases h

end Go.Ev
