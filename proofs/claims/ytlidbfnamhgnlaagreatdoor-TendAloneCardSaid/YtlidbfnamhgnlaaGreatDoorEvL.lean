/- Each operation of the evaluator is what the machine does: storing. -/
import Derived.Test.YtlidbfnamhgnlaaGreatDoorEvK
namespace Go.Ev
open Go

theorem cells_rel {X : Ctx} {x : AV} {v : Value} (h : RelV X x v) : x.cells.length = v.cells.size ∧ ∀ i (hi : i < x.cells.length), RelV X x.cells[i] (v.cells.getD i undef) := by
  have one : ∀ (x : AV) (v : Value), RelV X x v → x.cells = [x] → v.cells = #[v] → x.cells.length = v.cells.size ∧ ∀ i (hi : i < x.cells.length), RelV X x.cells[i] (v.cells.getD i undef) := by
    intro x v h h1 h2
    rw [h2]
    refine ⟨by rw [h1]; rfl, fun i hi => ?_⟩
    have h3 : i = 0 := by rw [h1] at hi; simp at hi; exact hi
    subst h3
    have : x.cells[0] = x := by simp only [h1]; rfl
    rw [this]
    exact h
  cases h with
  | agg cs vs hl hr => exact ⟨hl, hr⟩
  | junk => exact one _ _ .junk rfl rfl
  | bool b => exact one _ _ (.bool b) rfl rfl
  | int k n => exact one _ _ (.int k n) rfl rfl
  | str s => exact one _ _ (.str s) rfl rfl
  | slnil sz => exact one _ _ (.slnil sz) rfl rfl
  | slro0 sz a m => exact one _ _ (.slro0 sz a m) rfl rfl
  | slro sz xs b off m vals h1 h2 h3 h4 h5 h6 => exact one _ _ (.slro sz xs b off m vals h1 h2 h3 h4 h5 h6) rfl rfl
  | slstale τ g o sz xs a m h1 h2 h3 h4 => exact one _ _ (.slstale τ g o sz xs a m h1 h2 h3 h4) rfl rfl
  | slfam0 τ g o sz a h1 h2 => exact one _ _ (.slfam0 τ g o sz a h1 h2) rfl rfl
  | slfam τ g o sz xs b base m vals h1 h2 h3 h4 h5 h6 h7 h8 h9 h10 h11 => exact one _ _ (.slfam τ g o sz xs b base m vals h1 h2 h3 h4 h5 h6 h7 h8 h9 h10 h11) rfl rfl
  | ptr id off b h1 => exact one _ _ (.ptr id off b h1) rfl rfl
  | nilp => exact one _ _ .nilp rfl rfl
  | ept c sz xs i off a n m h1 h2 => exact one _ _ (.ept c sz xs i off a n m h1 h2) rfl rfl
  | fn f cs vs h1 h2 => exact one _ _ (.fn f cs vs h1 h2) rfl rfl
  | nilf => exact one _ _ .nilf rfl rfl
  | ifc t x v h1 => exact one _ _ (.ifc t x v h1) rfl rfl
  | nili => exact one _ _ .nili rfl rfl
  | tup cs vs h1 h2 => exact one _ _ (.tup cs vs h1 h2) rfl rfl
  | it id b h1 => exact one _ _ (.it id b h1) rfl rfl

theorem setR_spec {cs cs' ys : List AV} {off : Nat} (h : setR cs off ys = some cs') : off + ys.length ≤ cs.length ∧ cs'.length = cs.length ∧
    ∀ j, j < cs'.length → cs'[j]? = if off ≤ j ∧ j < off + ys.length then ys[j - off]? else cs[j]? := by
  unfold setR at h
  split at h
  · rename_i hle
    cases h
    refine ⟨hle, by simp; omega, fun j hj => ?_⟩
    by_cases h1 : j < off
    · rw [List.getElem?_append_left (by simp; omega), if_neg (by omega), List.getElem?_take_of_lt h1]
    · rw [List.getElem?_append_right (by simp; omega)]
      simp only [List.length_take]
      rw [show min off cs.length = off by omega]
      by_cases h2 : j < off + ys.length
      · rw [List.getElem?_append_left (by omega), if_pos ⟨by omega, h2⟩]
      · rw [List.getElem?_append_right (by omega), if_neg (by omega), List.getElem?_drop]
        congr 1; omega
  · cases h

theorem okCells_one {X : Ctx} {x : AV} {v : Value} (h : RelV X x v) (hok : okCells x = true) : ∀ u ∈ v.cells.toList, u.oneCell' = true := by
  intro u hu
  obtain ⟨h1, h2⟩ := cells_rel h
  obtain ⟨i, hi, rfl⟩ := List.mem_iff_getElem.1 hu
  simp at hi
  have := h2 i (by omega)
  rw [Array.getD_eq_getD_getElem?, Array.getElem?_eq_getElem hi] at this
  simp only [okCells, List.all_eq_true] at hok
  have := this.oneCell (hok _ (List.getElem_mem _))
  simpa using this

/-- A variable is written. -/
theorem step_var {P : Program} {γ : Gh} {st : St} {w : World} (hS : RelS γ st w) {id off b : Nat} {cs cs' ys : List AV} (hb : st.boxes id = some cs) (hg : γ.box id = some b) (hs : setR cs off ys = some cs')
    {us : List Value} (hl : ys.length = us.length) (hone : ∀ u ∈ us, u.oneCell' = true) (hr : ∀ i (h : i < ys.length), RelV ⟨γ, st.gens, w⟩ ys[i] (us.getD i undef)) :
    ∃ w', (storeCells ⟨b, off, none⟩ us).run P w = .ok () w' ∧ Step γ st w γ { st with boxes := upd st.boxes id (some cs') } w' (fun _ => True) := by
  obtain ⟨hle, hlen, hget⟩ := setR_spec hs
  obtain ⟨ho, vs, e, hv, hvl, hvr⟩ := hS.box id cs b hb hg
  have hblt := (hS.inb id b hg).1
  have hcell : ∀ j, j < vs.size → w.cell? ⟨b, j, none⟩ = some (vs.getD j undef) := fun j hj => by
    simp [World.cell?, hv, Array.getD_eq_getD_getElem?, hj]
  have hfz : ∀ j, w.frozen? ⟨b, j, none⟩ = false := fun j => by simp [World.frozen?, hv]
  have hst := run_storeCells P b us w off 0 hone (fun j hj => by
    simp only [Nat.add_zero]
    exact ⟨by rw [hcell _ (by omega)]; rfl, hfz _⟩)
  simp only [Nat.add_zero] at hst
  refine ⟨_, hst, ?_⟩
  have hsz := setCells_size b us w off
  have hoth := fun b' h => setCells_other b us w off b' h
  have hoff := setCells_cell_off b us w off
  have hin := fun j => setCells_cell_in b us w off j (fun i hi => by rw [hcell _ (by omega)]; rfl)
  have hblk : ∃ vs', (setCells w b off us).heap[b]? = some (.cells vs' e (0, 0)) ∧ vs'.size = vs.size := by
    clear hst hoff hin hsz hoth
    have : ∀ (us : List Value) (w : World) (off : Nat) (vs : Array Value), w.heap[b]? = some (.cells vs e (0, 0)) → ∃ vs', (setCells w b off us).heap[b]? = some (.cells vs' e (0, 0)) ∧ vs'.size = vs.size := by
      intro us
      induction us with
      | nil => intro w off vs h; exact ⟨vs, h, rfl⟩
      | cons u us ih =>
        intro w off vs h
        simp only [setCells]
        have hblt : b < w.heap.size := by
          rcases Nat.lt_or_ge b w.heap.size with h' | h'
          · exact h'
          · rw [Array.getElem?_eq_none h'] at h; cases h
        obtain ⟨vs', h1, h2⟩ := ih (w.setCell ⟨b, off, none⟩ u) (off + 1) (vs.setIfInBounds off u) (by
          simp only [World.setCell]
          rw [Array.getElem?_modify]
          simp [h])
        exact ⟨vs', h1, by simpa using h2⟩
    exact this us w off vs hv
  have hst1 := setCells_still b us w off
  generalize setCells w b off us = w' at *
  have hl' : Le ⟨γ, st.gens, w⟩ ⟨γ, st.gens, w'⟩ :=
    le_change (fun b' => b' = b) (by omega) (fun b' _ h => ⟨hoth b' h, rfl⟩) (fun b' _ h => by subst h; exact ⟨by rw [ho]; simp, fun τ h => by rw [ho] at h; cases h⟩) (fun _ _ h => h) (fun _ _ _ h => h) (fun _ => Nat.le_refl _) hst1
  refine ⟨hl', ?_, fun id' _ => ⟨rfl, rfl, fun h => ⟨by
    have : id' ≠ id := by rintro rfl; rw [hg] at h; cases h
    simp [upd, this], rfl⟩⟩, Nat.le_refl _⟩
  refine ⟨?_, ?_, ?_, ?_, ?_, ?_, hS.top⟩
  · intro id' cs2 b' h1 h2
    by_cases hid : id' = id
    · subst hid
      rw [hg] at h2; cases h2
      simp [upd] at h1; subst h1
      obtain ⟨vs', hv', hs'⟩ := hblk
      refine ⟨ho, vs', e, hv', by omega, fun i hi => ?_⟩
      have hcell' : ∀ j, j < vs'.size → w'.cell? ⟨b, j, none⟩ = some (vs'.getD j undef) := fun j hj => by
        simp [World.cell?, hv', Array.getD_eq_getD_getElem?, hj]
      have hc := hcell' i (by omega)
      have hgi := hget i hi
      rw [List.getElem?_eq_getElem hi] at hgi
      by_cases h1 : off ≤ i ∧ i < off + ys.length
      · rw [if_pos h1, List.getElem?_eq_getElem (by omega)] at hgi
        have h3 := hin (i - off) (by omega)
        rw [show off + (i - off) = i by omega, hc, List.getElem?_eq_getElem (by omega)] at h3
        have h4 := hr (i - off) (by omega)
        rw [List.getD_eq_getElem?_getD, List.getElem?_eq_getElem (by omega)] at h4
        rw [Option.some.inj hgi, Option.some.inj h3]
        exact h4.mono hl'
      · rw [if_neg h1, List.getElem?_eq_getElem (by omega)] at hgi
        have h3 := hoff i (by omega)
        rw [hc, hcell i (by omega)] at h3
        rw [Option.some.inj hgi, Option.some.inj h3]
        exact (hvr i (by omega)).mono hl'
    · simp [upd, hid] at h1
      obtain ⟨ho', vs', e', hv', hl2, hr'⟩ := hS.box id' cs2 b' h1 h2
      have hne : b' ≠ b := by rintro rfl; rw [ho] at ho'; cases ho'; exact hid rfl
      exact ⟨ho', vs', e', (hoth b' hne).trans hv', hl2, fun i hi => (hr' i hi).mono hl'⟩
  · intro id' s p b' h1 h2
    obtain ⟨ho', hv'⟩ := hS.iter id' s p b' h1 h2
    have hne : b' ≠ b := by
      rintro rfl
      rw [hv] at hv'; cases hv'
    exact ⟨ho', (hoth b' hne).trans hv'⟩
  · intro id' b' h; have := hS.inb id' b' h; simp; omega
  · intro τ b' base h; have := hS.inf τ b' base h; simp; omega
  · intro b' h; exact hS.free b' (by omega)
  · intro id' h
    have := hS.new id' h
    have hid : id' ≠ id := by rintro rfl; rw [hb] at this; cases this.1
    simp [upd, hid, this]

/-- An element of a family's row is written, or several. -/
theorem fam_write {P : Program} {γ : Gh} {st : St} {w : World} (hS : RelS γ st w) {τ g o s : Nat} {xs : List AV} {v : Value} (hx : RelV ⟨γ, st.gens, w⟩ (.sl (.fam τ g o) s xs) v) (hg : st.gens τ = g) (hne : xs ≠ [])
    {p : Nat} {us : List Value} {ucs : List AV} (hl : ucs.length = us.length) (hone : ∀ u ∈ us, u.oneCell' = true) (hr : ∀ i (h : i < ucs.length), RelV ⟨γ, st.gens, w⟩ ucs[i] (us.getD i undef))
    (hp : p + ucs.length ≤ xs.length * s) {xs' : List AV} (hw' : Wf s xs') (hlen : xs'.length = xs.length)
    (hflat : ∀ j, j < (flat xs').length → (flat xs')[j]? = if p ≤ j ∧ j < p + ucs.length then ucs[j - p]? else (flat xs)[j]?) :
    ∃ b base m w', γ.fam τ = some (b, base) ∧ v = .slice (some ⟨b, base + o * s, none⟩) xs.length m ∧ (storeCells ⟨b, base + o * s + p, none⟩ us).run P w = .ok () w' ∧
      Step γ st w γ { st with gens := upd st.gens τ (g + 1) } w' (fun _ => True) ∧ RelV ⟨γ, upd st.gens τ (g + 1), w'⟩ (.sl (.fam τ (g + 1) o) s xs') v ∧
      ∀ b' id, γ.owner b' = .box id → w'.heap[b']? = w.heap[b']? := by
  cases hx with
  | slstale _ _ _ _ _ _ _ h => exact absurd hg (Nat.ne_of_gt h)
  | slfam0 => exact absurd rfl hne
  | slfam _ _ _ _ _ b base m vals _ hf ho hb hw hm hroom hfr hc hrr =>
    have hfx := flat_length hw
    have hfx' := flat_length hw'
    rw [hlen] at hfx'
    have hms : xs.length * s ≤ m * s := Nat.mul_le_mul_right _ hm
    have hst := run_storeCells P b us w (base + o * s + p) 0 hone (fun j hj => by
      simp only [Nat.add_zero]
      rw [Nat.add_assoc (base + o * s)]
      exact ⟨hroom _ (by omega), hfr _ (by omega)⟩)
    simp only [Nat.add_zero] at hst
    have hsz := setCells_size b us w (base + o * s + p)
    have hoth := fun b' h => setCells_other b us w (base + o * s + p) b' h
    have hfrz := fun a => setCells_frozen b us w (base + o * s + p) a
    have hoff := setCells_cell_off b us w (base + o * s + p)
    have hin := fun j => setCells_cell_in b us w (base + o * s + p) j (fun i hi => by rw [Nat.add_assoc (base + o * s)]; exact hroom _ (by omega))
    have hst1 := setCells_still b us w (base + o * s + p)
    generalize setCells w b (base + o * s + p) us = w' at *
    have hstep := step_write (w' := w') hS (τ := τ) hb ho hsz hoth hst1
    rw [hg] at hstep
    refine ⟨b, base, m, w', hf, rfl, hst, hstep, ?_, fun b' id h => hoth b' (by rintro rfl; rw [ho] at h; cases h)⟩
    have := RelV.slfam (X := ⟨γ, upd st.gens τ (g + 1), w'⟩) τ (g + 1) o s xs' b base m (fun j => if p ≤ j ∧ j < p + ucs.length then us.getD (j - p) undef else vals j) (by simp [upd]) hf ho
      (by have hb2 : b < w.heap.size := hb; simp [hsz, hb2]) hw' (by omega)
      (fun j hj => by
        by_cases h1 : p ≤ j ∧ j < p + us.length
        · have := hin (j - p) (by omega)
          rw [show base + o * s + p + (j - p) = base + o * s + j by omega] at this
          rw [this, List.getElem?_eq_getElem (by omega)]; rfl
        · rw [hoff _ (by omega)]; exact hroom j hj)
      (fun j hj => by rw [hfrz]; exact hfr j hj)
      (fun j hj => by
        by_cases h1 : p ≤ j ∧ j < p + ucs.length
        · have := hin (j - p) (by omega)
          rw [show base + o * s + p + (j - p) = base + o * s + j by omega] at this
          rw [if_pos h1, this, List.getD_eq_getElem?_getD, List.getElem?_eq_getElem (by omega)]; rfl
        · rw [if_neg h1, hoff _ (by omega)]; exact hc j (by omega))
      (fun j hj => by
        have hfl := hflat j hj
        rw [List.getElem?_eq_getElem hj] at hfl
        by_cases h1 : p ≤ j ∧ j < p + ucs.length
        · rw [if_pos h1] at hfl ⊢
          rw [List.getElem?_eq_getElem (by omega)] at hfl
          rw [Option.some.inj hfl]
          exact (hr (j - p) (by omega)).mono hstep.le
        · rw [if_neg h1] at hfl ⊢
          rw [List.getElem?_eq_getElem (by omega)] at hfl
          rw [Option.some.inj hfl]
          exact (hrr j (by omega)).mono hstep.le) (by rw [show _ = st.next from hS.top]; exact (hS.inf τ b base hf).2)
    rwa [hlen] at this

end Go.Ev
