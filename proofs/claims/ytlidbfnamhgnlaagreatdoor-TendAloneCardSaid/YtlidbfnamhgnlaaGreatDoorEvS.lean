/- A region whose order is drawn: one run in text order tells them all. -/
import Derived.Test.YtlidbfnamhgnlaaGreatDoorEvR
namespace Go.Ev
open Go

/-! ### what the look at a region tells -/

theorem nmut_take {is : List MI} {k : Nat} (h : k < is.length) : nmut (is.take (k + 1)) = nmut (is.take k) + (if is[k].op.mut = true then 1 else 0) := by
  induction is generalizing k with
  | nil => simp at h
  | cons i is ih =>
    cases k with
    | zero => simp [nmut]
    | succ k =>
      have := ih (k := k) (by simpa using h)
      simp only [List.take_succ_cons, nmut, this, List.getElem_cons_succ]
      omega

theorem nmut_mono {is : List MI} {a b : Nat} (h : a ≤ b) (hb : b ≤ is.length) : nmut (is.take a) ≤ nmut (is.take b) := by
  induction b with
  | zero => have : a = 0 := by omega
            subst this; exact Nat.le_refl _
  | succ b ih =>
    by_cases e : a = b + 1
    · subst e; exact Nat.le_refl _
    · have := ih (by omega) (by omega)
      rw [nmut_take (by omega)]; omega

theorem nmut_find {is : List MI} {i j : Nat} (hi : i ≤ is.length) (hj : j < nmut (is.take i)) : ∃ k, ∃ h : k < is.length, k < i ∧ is[k].op.mut = true ∧ nmut (is.take k) = j := by
  induction i with
  | zero => simp [nmut] at hj
  | succ i ih =>
    by_cases h : j < nmut (is.take i)
    · obtain ⟨k, h1, h2, h3, h4⟩ := ih (by omega) h
      exact ⟨k, h1, by omega, h3, h4⟩
    · rw [nmut_take (by omega)] at hj
      refine ⟨i, by omega, by omega, ?_, ?_⟩
      · by_cases e : is[i].op.mut = true
        · exact e
        · rw [if_neg e] at hj; omega
      · split at hj <;> omega

/-- The edges that bind. -/
def EdgeTo (ops : Array Oper) (i k : Nat) : Prop := ∃ o, ops[i]? = some o ∧ ∃ e ∈ o.after, Region.binds .any e = true ∧ e.on = k

structure DOk (ops : Array Oper) (is : List MI) (M : List Nat) : Prop where
  len : is.length = ops.size
  edge : ∀ i k, EdgeTo ops i k → k < i
  bits : ∀ i k, i < ops.size → k < ops.size → bit M i k = true → ∃ j, EdgeTo ops i j ∧ (k = j ∨ bit M j k = true)
  chain : ∀ i k (hi : i < is.length) (hk : k < is.length), k < i → is[i].op.mut = true → is[k].op.mut = true → bit M i k = true
  writer : ∀ i k (hi : i < is.length) (hk : k < is.length), i ≠ k → ∀ t ∈ is[k].writes, t ∉ is[i].writes
  reader : ∀ i k (hi : i < is.length) (hk : k < is.length), i ≠ k → ∀ t ∈ is[k].writes, t ∈ is[i].reads → (k < i ∧ bit M i k = true) ∨ (i < k ∧ bit M k i = true)
  before : ∀ i k (hi : i < is.length) (hk : k < is.length), k < i → is[i].op.mut = false → is[i].op.lax = false → is[k].op.mut = true → nmut (is.take k) + is[i].back < nmut (is.take i) → bit M i k = true
  behind : ∀ i k (hi : i < is.length) (hk : k < is.length), i < k → is[i].op.mut = false → is[i].op.lax = false → is[k].op.mut = true → nmut (is.take i) + is[i].fwd ≤ nmut (is.take k) → bit M k i = true

theorem dOk_spec {ops : Array Oper} {is : List MI} {M : List Nat} (hl : is.length = ops.size) (h : dOk ops is M = true) : DOk ops is M := by
  have h1 : ∀ i (hi : i < is.length) o, ops[i]? = some o → (∀ e ∈ o.after, Region.binds .any e = true → e.on < i) ∧ ∀ k (hk : k < is.length), dOk1 is M i is[i] o k is[k] = true := by
    intro i hi o ho
    simp only [dOk, List.all_eq_true, List.mem_range] at h
    have := h i (by omega)
    rw [ho, List.getElem?_eq_getElem hi] at this
    simp only [Bool.and_eq_true, List.all_eq_true, List.mem_range] at this
    refine ⟨fun e he hb => ?_, fun k hk => ?_⟩
    · have := this.1 e (by simpa using he)
      simpa [hb] using this
    · have := this.2 k (by omega)
      rw [List.getElem?_eq_getElem hk] at this
      exact this
  have get : ∀ i, i < is.length → ∃ o, ops[i]? = some o := fun i hi => ⟨ops[i]'(by omega), by simp [show i < ops.size by omega]⟩
  have main : ∀ i (hi : i < is.length) k (hk : k < is.length), ∃ o, ops[i]? = some o ∧ dOk1 is M i is[i] o k is[k] = true := fun i hi k hk => by
    obtain ⟨o, ho⟩ := get i hi
    exact ⟨o, ho, (h1 i hi o ho).2 k hk⟩
  refine ⟨hl, ?_, ?_, ?_, ?_, ?_, ?_, ?_⟩
  · rintro i k ⟨o, ho, e, he, hb, rfl⟩
    have hi : i < ops.size := by
      rcases Nat.lt_or_ge i ops.size with h | h
      · exact h
      · rw [Array.getElem?_eq_none h] at ho; cases ho
    exact (h1 i (by omega) o ho).1 e he hb
  · intro i k hi hk hb
    obtain ⟨o, ho, hd⟩ := main i (by omega) k (by omega)
    simp only [dOk1, Bool.and_eq_true, hb, Bool.not_true, Bool.false_or, List.any_eq_true, Bool.or_eq_true, decide_eq_true_eq] at hd
    obtain ⟨⟨e, he, ⟨hb1, hlt⟩, hk'⟩, _⟩ := hd
    exact ⟨e.on, ⟨o, ho, e, by simpa using he, hb1, rfl⟩, hk'⟩
  all_goals intro i k hi hk
  · intro hlt hm1 hm2
    obtain ⟨o, ho, hd⟩ := main i hi k hk
    simp only [dOk1, Bool.and_eq_true, Bool.or_eq_true, decide_eq_true_eq] at hd
    have := (hd.2.resolve_left (by omega)).1.1
    simpa [hm1, hm2, hlt] using this
  · intro hne t ht
    obtain ⟨o, ho, hd⟩ := main i hi k hk
    simp only [dOk1, Bool.and_eq_true, Bool.or_eq_true, decide_eq_true_eq, List.all_eq_true] at hd
    have := ((hd.2.resolve_left (by omega)).1.2 t ht).1
    simpa using this
  · intro hne t ht hr
    obtain ⟨o, ho, hd⟩ := main i hi k hk
    simp only [dOk1, Bool.and_eq_true, Bool.or_eq_true, decide_eq_true_eq, List.all_eq_true] at hd
    have := ((hd.2.resolve_left (by omega)).1.2 t ht).2
    have hc : is[i].reads.contains t = true := by simpa using hr
    rw [hc] at this
    simp only [Bool.not_true, Bool.false_eq_true, false_or] at this
    by_cases hlt : k < i
    · rw [if_pos hlt] at this; exact .inl ⟨hlt, this⟩
    · rw [if_neg hlt] at this; exact .inr ⟨by omega, this⟩
  · intro hlt hm hx hmk hn
    obtain ⟨o, ho, hd⟩ := main i hi k hk
    simp only [dOk1, Bool.and_eq_true, Bool.or_eq_true, decide_eq_true_eq] at hd
    have := (hd.2.resolve_left (by omega)).2
    simpa [hm, hx, hmk, hlt, hn] using this
  · intro hlt hm hx hmk hn
    obtain ⟨o, ho, hd⟩ := main i hi k hk
    simp only [dOk1, Bool.and_eq_true, Bool.or_eq_true, decide_eq_true_eq] at hd
    have := (hd.2.resolve_left (by omega)).2
    simpa [hm, hx, hmk, show ¬ k < i by omega, hn] using this

/-! ### what an operation looks at -/

section
variable {call : Nat → List AV → St → Option (AV × St)} {base : Nat}

theorem nonmut_still {e : Env} {s : St} {m : MOp} (hm : m.mut = false) {r : AV × Env × St} (h : evOp call base e s m = some r) : r.2 = (e, s) := by
  cases m <;> simp only [MOp.mut, Bool.true_eq_false] at hm <;> simp only [evOp] at h <;>
    first
      | (simp only [Option.some.injEq] at h; subst h; rfl)
      | (simp only [Option.map_eq_some_iff] at h; obtain ⟨_, _, rfl⟩ := h; rfl)
      | (split at h <;> first | (cases h; done) | (simp only [Option.some.injEq] at h; subst h; rfl) | (simp only [Option.map_eq_some_iff] at h; obtain ⟨_, _, rfl⟩ := h; rfl) |
          (split at h <;> first | (cases h; done) | (simp only [Option.some.injEq] at h; subst h; rfl) | (simp only [Option.map_eq_some_iff] at h; obtain ⟨_, _, rfl⟩ := h; rfl)))

theorem lax_any {e : Env} {s s' : St} {m : MOp} (hm : m.lax = true) {v : AV} (h : evOp call base e s m = some (v, e, s)) : evOp call base e s' m = some (v, e, s') := by
  cases m <;> simp only [MOp.lax, MOp.mut, Bool.false_eq_true, Bool.not_true] at hm <;> simp only [evOp] at h ⊢ <;>
    first
      | (simp only [Option.some.injEq, Prod.mk.injEq, and_true] at h ⊢; exact h)
      | (simp only [Option.map_eq_some_iff, Prod.mk.injEq, and_true] at h ⊢; exact h)
      | (split at h <;> first | (cases h; done) | (simp only [Option.some.injEq, Prod.mk.injEq, and_true] at h ⊢; exact h) | (simp only [Option.map_eq_some_iff, Prod.mk.injEq, and_true] at h ⊢; exact h))

theorem map_ev' {e e' : Env} {xs : List Opd} (h : ∀ x ∈ xs, x.ev e' = x.ev e) : (xs.map fun x => x.ev e') = xs.map fun x => x.ev e := List.map_congr_left h

/-- The two slots' tables change alike. -/
def Alike (e e' e1 e1' : Env) (L : List Nat) : Prop := (∀ t ∈ L, e1' t = e1 t) ∧ (∀ t, t ∉ L → e1' t = e' t ∧ e1 t = e t)

theorem pl_slots {e e' : Env} {pl : Pl} (h : ∀ x ∈ pl.opds, x.ev e' = x.ev e) : ∀ t ∈ pl.slots, e' t = e t := by
  cases pl with
  | slot t => intro t' ht'; simp [Pl.slots] at ht'; subst ht'; exact h (.t t') (by simp [Pl.opds])
  | fld a => intro t ht; simp [Pl.slots] at ht

theorem plSet_congr {e e' : Env} {s s1 : St} {v : AV} {pl : Pl} (h : ∀ x ∈ pl.opds, x.ev e' = x.ev e) {e1 : Env} (hev : plSet e s v pl = some (e1, s1)) :
    ∃ e1', plSet e' s v pl = some (e1', s1) ∧ Alike e e' e1 e1' pl.slots := by
  cases pl with
  | slot t =>
    simp only [plSet, Option.some.injEq, Prod.mk.injEq] at hev ⊢
    obtain ⟨rfl, rfl⟩ := hev
    refine ⟨_, ⟨rfl, rfl⟩, fun t' ht' => ?_, fun t' ht' => ?_⟩
    · simp [Pl.slots] at ht'; subst ht'; simp [upd]
    · simp [Pl.slots] at ht'; simp [upd, ht']
  | fld a =>
    have ha := h a (by simp [Pl.opds])
    simp only [plSet, ha] at hev ⊢
    split at hev
    · simp only [Option.bind_eq_some_iff, Option.map_eq_some_iff, Prod.mk.injEq] at hev ⊢
      obtain ⟨cs, h1, cs', h2, rfl, rfl⟩ := hev
      exact ⟨e', ⟨cs, h1, cs', h2, rfl, rfl⟩, fun t ht => by simp [Pl.slots] at ht, fun t _ => ⟨rfl, rfl⟩⟩
    · cases hev

theorem plGet_congr {e e' : Env} {s : St} {pl : Pl} (h : ∀ x ∈ pl.opds, x.ev e' = x.ev e) : plGet e' s pl = plGet e s pl := by
  cases pl with
  | slot t => have := h (.t t) (by simp [Pl.opds]); simpa [plGet, Opd.ev] using this
  | fld a => simp only [plGet, h a (by simp [Pl.opds])]

theorem evStore_congr {e e' : Env} {s s1 : St} {sz : Nat} {a x : AV} {pl : Option Pl} (h : ∀ p, pl = some p → ∀ x ∈ p.opds, x.ev e' = x.ev e) {L : List Nat} (hL : ∀ p, pl = some p → p.slots = L) (hL0 : pl = none → L = []) {e1 : Env}
    (hev : evStore e s sz a x pl = some (e1, s1)) : ∃ e1', evStore e' s sz a x pl = some (e1', s1) ∧ Alike e e' e1 e1' L := by
  have hsl : ∀ t ∈ L, e' t = e t := by
    cases pl with
    | none => rw [hL0 rfl]; simp
    | some p => rw [← hL p rfl]; exact pl_slots (h p rfl)
  simp only [evStore] at hev ⊢
  split at hev
  case isFalse => cases hev
  rename_i hok
  rw [if_pos hok]
  split at hev
  · simp only [Option.bind_eq_some_iff, Option.map_eq_some_iff, Prod.mk.injEq] at hev ⊢
    obtain ⟨cs, h1, cs', h2, rfl, rfl⟩ := hev
    exact ⟨e', ⟨cs, h1, cs', h2, rfl, rfl⟩, hsl, fun t _ => ⟨rfl, rfl⟩⟩
  · cases pl with
    | none => cases hev
    | some p =>
      simp only at hev ⊢
      rw [plGet_congr (h p rfl)]
      split at hev
      · split at hev
        · rename_i hc
          simp only [Option.bind_eq_some_iff] at hev
          obtain ⟨old, h1, cs, h2, h3⟩ := hev
          obtain ⟨e1', h4, h5⟩ := plSet_congr (h p rfl) h3
          exact ⟨e1', by rw [if_pos hc]; simp only [h1, h2, Option.bind_some]; exact h4, hL p rfl ▸ h5⟩
        · cases hev
      · cases hev
  · cases hev

theorem evClear_congr {e e' : Env} {s s1 : St} {sz : Nat} {z x : AV} {pl : Pl} (h : ∀ x ∈ pl.opds, x.ev e' = x.ev e) {e1 : Env} (hev : evClear e s sz z x pl = some (e1, s1)) :
    ∃ e1', evClear e' s sz z x pl = some (e1', s1) ∧ Alike e e' e1 e1' pl.slots := by
  simp only [evClear] at hev ⊢
  split at hev
  · simp only [Option.some.injEq, Prod.mk.injEq] at hev
    obtain ⟨rfl, rfl⟩ := hev
    exact ⟨e', rfl, pl_slots h, fun t _ => ⟨rfl, rfl⟩⟩
  · rw [plGet_congr h]
    split at hev
    · split at hev
      · rename_i hc
        rw [if_pos hc]
        exact plSet_congr h hev
      · cases hev
    · cases hev
  · cases hev

theorem Alike.same {e e' : Env} : Alike e e' e e' [] := ⟨fun t ht => by simp at ht, fun t _ => ⟨rfl, rfl⟩⟩

set_option maxHeartbeats 1000000 in
theorem evOp_congr {e e' : Env} {s s1 : St} {m : MOp} (h : ∀ x ∈ m.opds, x.ev e' = x.ev e) {v : AV} {e1 : Env} (hev : evOp call base e s m = some (v, e1, s1)) :
    ∃ e1', evOp call base e' s m = some (v, e1', s1) ∧ Alike e e' e1 e1' m.slots := by
  have fin : m.slots = [] → (evOp call base e' s m = (evOp call base e s m).map fun r => (r.1, e', r.2.2)) → e1 = e → ∃ e1', evOp call base e' s m = some (v, e1', s1) ∧ Alike e e' e1 e1' m.slots := by
    intro h1 h2 h3
    subst h3
    rw [hev] at h2
    exact ⟨e', h2, h1 ▸ Alike.same⟩
  have one : ∀ {a : Opd}, a ∈ m.opds → a.ev e' = a.ev e := fun ha => h _ ha
  have many : ∀ {xs : List Opd}, (∀ x ∈ xs, x ∈ m.opds) → (xs.map fun x => x.ev e') = xs.map fun x => x.ev e := fun hx => map_ev' fun x hx' => h x (hx x hx')
  have opt : ∀ {x : Option Opd}, (∀ y ∈ x.toList, y ∈ m.opds) → (x.map fun x => x.ev e') = x.map fun x => x.ev e := fun {x} hx => by
    cases x with
    | none => rfl
    | some y => simp [h y (hx y (by simp))]
  cases m with
  | store sz a x pl =>
    simp only [evOp, Option.map_eq_some_iff, Prod.mk.injEq] at hev ⊢
    obtain ⟨r, h1, rfl, h2⟩ := hev
    rw [h2] at h1
    rw [one (a := a) (by simp [MOp.opds]), one (a := x) (by simp [MOp.opds])]
    obtain ⟨e1', h3, h4⟩ := evStore_congr (e' := e') (L := (MOp.store sz a x pl).slots) (fun p hp y hy => h y (by subst hp; simp [MOp.opds, hy])) (fun p hp => by subst hp; rfl) (fun hp => by subst hp; rfl) h1
    exact ⟨e1', ⟨_, h3, rfl, rfl⟩, h4⟩
  | clear sz z x pl =>
    simp only [evOp, Option.map_eq_some_iff, Prod.mk.injEq] at hev ⊢
    obtain ⟨r, h1, rfl, h2⟩ := hev
    rw [h2] at h1
    rw [one (a := x) (by simp [MOp.opds])]
    obtain ⟨e1', h3, h4⟩ := evClear_congr (e' := e') (fun y hy => h y (by simp [MOp.opds, hy])) h1
    exact ⟨e1', ⟨_, h3, rfl, rfl⟩, h4⟩
  | build z ps =>
    have hp : (ps.map fun p => (p.1, p.2.1, p.2.2.ev e')) = ps.map fun p => (p.1, p.2.1, p.2.2.ev e) := List.map_congr_left fun p hp => by
      rw [h p.2.2 (by simp only [MOp.opds, List.mem_map]; exact ⟨p, hp, rfl⟩)]
    refine fin rfl (by simp only [evOp, hp, Option.map_map, Function.comp_def]) ?_
    simp only [evOp, Option.map_eq_some_iff, Prod.mk.injEq] at hev
    obtain ⟨_, _, _, he, _⟩ := hev; exact he.symm
  | mkSl k sz ps =>
    have hp := many (xs := ps) (fun x hx => hx)
    have hq : (ps.all fun p => decide ((p.ev e').cells.length = sz) && okCells (p.ev e')) = ps.all fun p => decide ((p.ev e).cells.length = sz) && okCells (p.ev e) := by
      have h2 : ∀ e, (ps.all fun p => decide ((p.ev e).cells.length = sz) && okCells (p.ev e)) = (ps.map fun x => x.ev e).all fun v => decide (v.cells.length = sz) && okCells v := fun e => by simp [List.all_map, Function.comp_def]
      rw [h2, h2, hp]
    refine fin rfl ?_ ?_
    · simp only [evOp, hq, hp]; split <;> simp
    · simp only [evOp] at hev; split at hev
      · simp only [Option.some.injEq, Prod.mk.injEq] at hev; exact hev.2.1.symm
      · cases hev
  | mkFn f cs =>
    have hp := many (xs := cs) (fun x hx => hx)
    refine fin rfl (by simp only [evOp, hp, Option.map_some]) ?_
    simp only [evOp, Option.some.injEq, Prod.mk.injEq] at hev; exact hev.2.1.symm
  | slice k sz x lo hi mx =>
    refine fin rfl ?_ ?_
    · simp only [evOp, one (a := x) (by simp [MOp.opds]), opt (x := lo) (by simp [MOp.opds]; intro y hy; simp [hy]), opt (x := hi) (by simp [MOp.opds]; intro y hy; simp [hy]), opt (x := mx) (by simp [MOp.opds]; intro y hy; simp [hy]), Option.map_map, Function.comp_def]
    · simp only [evOp, Option.map_eq_some_iff, Prod.mk.injEq] at hev
      obtain ⟨_, _, _, he, _⟩ := hev; exact he.symm
  | sliceS x lo hi =>
    refine fin rfl ?_ ?_
    · simp only [evOp, one (a := x) (by simp [MOp.opds]), opt (x := lo) (by simp [MOp.opds]; intro y hy; simp [hy]), opt (x := hi) (by simp [MOp.opds]; intro y hy; simp [hy]), Option.map_map, Function.comp_def]
    · simp only [evOp, Option.map_eq_some_iff, Prod.mk.injEq] at hev
      obtain ⟨_, _, _, he, _⟩ := hev; exact he.symm
  | call f xs =>
    refine fin rfl (by simp only [evOp, many (xs := xs) (fun x hx => hx), Option.map_map, Function.comp_def]) ?_
    simp only [evOp, Option.map_eq_some_iff, Prod.mk.injEq] at hev
    obtain ⟨_, _, _, he, _⟩ := hev; exact he.symm
  | callV f xs =>
    refine fin rfl ?_ ?_
    · simp only [evOp, one (a := f) (by simp [MOp.opds]), many (xs := xs) (fun x hx => by simp [MOp.opds, hx])]
      split
      · simp only [Option.map_map, Function.comp_def]
      · rfl
    · simp only [evOp] at hev
      split at hev
      · simp only [Option.map_eq_some_iff, Prod.mk.injEq] at hev
        obtain ⟨_, _, _, he, _⟩ := hev; exact he.symm
      · cases hev
  | mnmx mx xs =>
    refine fin rfl (by simp only [evOp, many (xs := xs) (fun x hx => hx), Option.map_map, Function.comp_def]) ?_
    simp only [evOp, Option.map_eq_some_iff, Prod.mk.injEq] at hev
    obtain ⟨_, _, _, he, _⟩ := hev; exact he.symm
  | append k sz lim x y =>
    refine fin rfl ?_ ?_
    · simp only [evOp, one (a := x) (by simp [MOp.opds]), one (a := y) (by simp [MOp.opds])]
      split
      · simp only [Option.map_bind, Function.comp_def]
        congr 1; funext ys; split <;> rfl
      · rfl
    · simp only [evOp] at hev
      split at hev
      · simp only [Option.bind_eq_some_iff] at hev
        obtain ⟨ys, _, hev⟩ := hev
        split at hev
        · simp only [Option.some.injEq, Prod.mk.injEq] at hev; exact hev.2.1.symm
        · cases hev
      · cases hev
  | alloc k z =>
    refine fin rfl rfl ?_
    simp only [evOp, Option.some.injEq, Prod.mk.injEq] at hev; exact hev.2.1.symm
  | pick c a b =>
    refine fin rfl ?_ ?_
    · simp only [evOp, one (a := c) (by simp [MOp.opds]), one (a := a) (by simp [MOp.opds]), one (a := b) (by simp [MOp.opds])]
      split <;> rfl
    · simp only [evOp] at hev
      split at hev
      · simp only [Option.some.injEq, Prod.mk.injEq] at hev; exact hev.2.1.symm
      · cases hev
  | bin _ x y | eqB _ x y | eqP _ x y | eqI _ x y | eqA _ _ x y | iadr _ x y | idx x y =>
    refine fin rfl (by simp only [evOp, one (a := x) (by simp [MOp.opds]), one (a := y) (by simp [MOp.opds]), Option.map_map, Function.comp_def]) ?_
    simp only [evOp, Option.map_eq_some_iff, Prod.mk.injEq] at hev
    obtain ⟨_, _, _, he, _⟩ := hev; exact he.symm
  | mv x | box _ x | mkIfc _ x =>
    refine fin rfl (by simp only [evOp, one (a := x) (by simp [MOp.opds]), Option.map_some]) ?_
    simp only [evOp, Option.some.injEq, Prod.mk.injEq] at hev; exact hev.2.1.symm
  | load _ _ x | un _ x | fadr _ x | next x | assert _ _ _ x | len _ x =>
    refine fin rfl (by simp only [evOp, one (a := x) (by simp [MOp.opds]), Option.map_map, Function.comp_def]) ?_
    simp only [evOp, Option.map_eq_some_iff, Prod.mk.injEq] at hev
    obtain ⟨_, _, _, he, _⟩ := hev; exact he.symm
  | nilck x | convI _ x | strS x | range _ x =>
    refine fin rfl ?_ ?_
    · simp only [evOp, one (a := x) (by simp [MOp.opds])]
      split <;> rfl
    · simp only [evOp] at hev
      split at hev <;> first | (simp only [Option.some.injEq, Prod.mk.injEq] at hev; exact hev.2.1.symm) | cases hev
  | convS _ _ x =>
    refine fin rfl ?_ ?_
    · simp only [evOp, one (a := x) (by simp [MOp.opds])]
      split
      · split <;> rfl
      · rfl
    · simp only [evOp] at hev
      split at hev
      · split at hev
        · simp only [Option.some.injEq, Prod.mk.injEq] at hev; exact hev.2.1.symm
        · cases hev
      · cases hev
  | convB x =>
    refine fin rfl ?_ ?_
    · simp only [evOp, one (a := x) (by simp [MOp.opds])]
      split
      · split
        · simp only [Option.map_map, Function.comp_def]
        · rfl
      · rfl
    · simp only [evOp] at hev
      split at hev
      · split at hev
        · simp only [Option.map_eq_some_iff, Prod.mk.injEq] at hev
          obtain ⟨_, _, _, he, _⟩ := hev; exact he.symm
        · cases hev
      · cases hev
  | field _ _ _ x | ext _ x =>
    refine fin rfl ?_ ?_
    · simp only [evOp, one (a := x) (by simp [MOp.opds])]
      split
      · simp only [Option.map_map, Function.comp_def]
      · rfl
    · simp only [evOp] at hev
      split at hev
      · simp only [Option.map_eq_some_iff, Prod.mk.injEq] at hev
        obtain ⟨_, _, _, he, _⟩ := hev; exact he.symm
      · cases hev

theorem gv_congr {e e' : Env} {g : Option (Nat × Bool)} (h : ∀ t ∈ g.toList.map (·.1), e' t = e t) : gv e' g = gv e g := by
  cases g with
  | none => rfl
  | some p => simp only [gv, h p.1 (by simp)]

end
end Go.Ev
