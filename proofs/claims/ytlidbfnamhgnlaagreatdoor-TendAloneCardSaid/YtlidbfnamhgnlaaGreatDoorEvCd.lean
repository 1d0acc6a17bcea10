/- How a function's evaluation is stepped through; what was told of its callees. -/
import Derived.Test.YtlidbfnamhgnlaaGreatDoorEvCc
namespace Go.Ev
open Go
open Enc (av)

theorem bind_m {α β : Type} (x : Option α) (f : α → Option β) : x.bind f = match x with | some a => f a | none => none := by cases x <;> rfl
theorem map_m {α β : Type} (x : Option α) (f : α → β) : x.map f = match x with | some a => some (f a) | none => none := by cases x <;> rfl

theorem froz_less {n n' : Nat} {g : Nat → Nat} (hn : n' ≤ n) : ∀ (k : Nat) (x y : AV), SizeOf.sizeOf x ≤ k → froz n g x = some y → froz n' g x = some y := by
  intro k
  induction k with
  | zero => intro x y h; cases x <;> simp at h
  | succ k ih =>
    have ihs : ∀ (xs ys : List AV), SizeOf.sizeOf xs ≤ k → frozs n g xs = some ys → frozs n' g xs = some ys := by
      intro xs
      induction xs with
      | nil => intro ys _ h; exact h
      | cons x xs ihx =>
        intro ys hk h
        simp only [frozs] at h ⊢
        simp at hk
        split at h
        · rename_i y zs h1 h2
          cases h
          rw [ih x y (by omega) h1, ihx zs (by omega) h2]
        · cases h
    intro x y hk h
    cases x with
    | sl c s xs =>
      simp at hk
      cases c with
      | ro =>
        simp only [froz, Option.map_eq_some_iff] at h ⊢
        obtain ⟨ys, h1, h2⟩ := h
        exact ⟨ys, ihs _ _ (by omega) h1, h2⟩
      | nil => exact h
      | fam τ g0 o =>
        simp only [froz] at h ⊢
        split at h
        · rename_i hc
          simp only [Bool.and_eq_true, decide_eq_true_eq] at hc
          rw [if_pos (by simp only [Bool.and_eq_true, decide_eq_true_eq]; exact ⟨hc.1, by omega⟩)]
          simp only [Option.map_eq_some_iff] at h ⊢
          obtain ⟨ys, h1, h2⟩ := h
          exact ⟨ys, ihs _ _ (by omega) h1, h2⟩
        · cases h
    | agg xs | tup xs | fn f xs =>
      simp at hk
      simp only [froz, Option.map_eq_some_iff] at h ⊢
      obtain ⟨ys, h1, h2⟩ := h
      exact ⟨ys, ihs _ _ (by omega) h1, h2⟩
    | ifc t x =>
      simp at hk
      simp only [froz, Option.map_eq_some_iff] at h ⊢
      obtain ⟨ys, h1, h2⟩ := h
      exact ⟨ys, ih _ _ (by omega) h1, h2⟩
    | _ => exact h

theorem frozs_less {n n' : Nat} {g : Nat → Nat} (hn : n' ≤ n) : ∀ {xs ys : List AV}, frozs n g xs = some ys → frozs n' g xs = some ys := by
  intro xs
  induction xs with
  | nil => intro ys h; exact h
  | cons x xs ih =>
    intro ys h
    simp only [frozs] at h ⊢
    split at h
    · rename_i y zs h1 h2
      cases h
      rw [froz_less hn _ x y (Nat.le_refl _) h1, ih h2]
    · cases h

/-- What a function tells of arguments that are only read: from `h` calls deep on, whatever there is in memory; `nw`: what it tells is all new. -/
def Tells (T : Tbl) (h f : Nat) (nw : Bool) (args : List AV) (v : AV) : Prop :=
  ∃ mf, T.F f = some mf ∧ ∀ d st, h ≤ d → ∃ v1 st1, evFn (callN T d f) rounds mf args st = some (v1, st1) ∧ Keeps st st1 ∧ froz st.next st1.gens v1 = some v ∧ (nw = true → fresh v1 = true)

theorem Tells.reader {T : Tbl} {h f : Nat} {nw : Bool} {args : List AV} {v : AV} (ht : Tells T h f nw args v) {d : Nat} (hd : h ≤ d) (st : St) : ∃ b, reader (callN T d f) T f args st = some (v, b) ∧ (nw = true → b = true) := by
  obtain ⟨mf, h1, h2⟩ := ht
  obtain ⟨v1, st1, h3, h4, h5, h6⟩ := h2 d st hd
  exact ⟨fresh v1, by simp only [Ev.reader, h1, h3, Option.bind_some, fin, if_pos h4, h5, Option.map_some], h6⟩

/-- A call of it. -/
theorem Tells.call {T : Tbl} {h f : Nat} {nw : Bool} {bargs : List AV} {v : AV} (ht : Tells T h f nw bargs v) {c : Nat} (hm : T.mode c f = .pure) {d : Nat} (hd : h ≤ d) {args : List AV} {st : St} (hb : frozs st.next st.gens args = some bargs) :
    callN T (d + 1) c f args st = some (v, st) := by
  obtain ⟨b, h1, _⟩ := ht.reader hd st
  simp only [callN, hm, lend, hb, h1, Option.map_some]

theorem Tells.lent {T : Tbl} {h f : Nat} {bargs : List AV} {v : AV} (ht : Tells T h f true bargs v) {c : Nat} (hm : T.mode c f = .pure) {d : Nat} (hd : h ≤ d) {args : List AV} {st : St} (hb : frozs 0 st.gens args = some bargs) :
    callN T (d + 1) c f args st = some (v, st) := by
  simp only [callN, hm, lend]
  split
  · rename_i b' hb'
    have := frozs_less (Nat.zero_le _) hb'
    rw [hb] at this
    cases this
    obtain ⟨b, h1, _⟩ := ht.reader hd st
    simp only [h1, Option.map_some]
  · rw [hb]
    obtain ⟨b, h1, h2⟩ := ht.reader hd st0
    simp only [h1, Option.bind_some, if_pos (h2 rfl)]

theorem Tells.ok {P : Program} {T : Tbl} (hT : TblOk P T) {h f : Nat} {nw : Bool} {args : List AV} {v : AV} (ht : Tells T h f nw args v) (st : St) : CallOk P f args st v st := by
  obtain ⟨b, h1, _⟩ := ht.reader (Nat.le_refl _) st
  obtain ⟨v1, st1, h2, h3, h4, _⟩ := reader_ok hT (callN_ok hT h f) h1
  exact h2.frozen h3 h4

/-- A function in a mode of its own. -/
theorem callN_keep {T : Tbl} {d c f : Nat} {mf : MF} (hm : T.mode c f = .keep) (hF : T.F f = some mf) (args : List AV) (st : St) : callN T (d + 1) c f args st = evFn (callN T d f) rounds mf args st := by
  simp only [callN, hm, hF, Option.bind_some]

theorem callN_prim {T : Tbl} {d c f : Nat} {p : List AV → St → Option (AV × St)} (hm : T.mode c f = .prim p) (args : List AV) (st : St) : callN T (d + 1) c f args st = p args st := by
  simp only [callN, hm]

theorem callN_raw {T : Tbl} {d c f : Nat} {mf : MF} (hm : T.mode c f = .raw) (hF : T.F f = some mf) {args : List AV} {st st1 : St} {v v' : AV} (h : evFn (callN T d f) rounds mf args st = some (v, st1)) (hk : Keeps st st1) (hv : froz st.next st1.gens v = some v') :
    callN T (d + 1) c f args st = some (v', st) := by
  simp only [callN, hm, hF, Option.bind_some, h, Option.map_some, finR, fin, if_pos hk, hv]

/-! ### what is kept -/

theorem Keeps.refl (st : St) : Keeps st st := ⟨fun _ _ => rfl, fun _ _ => rfl, fun _ _ => rfl⟩

theorem Keeps.trans {a b c : St} (h : Keeps a b) (hn : a.next ≤ b.next) (k : Keeps b c) : Keeps a c :=
  ⟨fun i hi => (k.box i (by omega)).trans (h.box i hi), fun i hi => (k.iter i (by omega)).trans (h.iter i hi), fun i hi => (k.gens i (by omega)).trans (h.gens i hi)⟩

end Go.Ev
