/- A region whose order is drawn: the run in text order, told step for step. -/
import Derived.Test.YtlidbfnamhgnlaaGreatDoorEvS
namespace Go.Ev
open Go

theorem AV.beq_eq : ∀ (n : Nat) (a b : AV), SizeOf.sizeOf a ≤ n → AV.beq a b = true → a = b := by
  intro n
  induction n with
  | zero => intro a b hn; cases a <;> simp at hn
  | succ n ih =>
    intro a b hn h
    have list : ∀ (xs ys : List AV), (∀ x ∈ xs, SizeOf.sizeOf x ≤ n) → AV.beqs xs ys = true → xs = ys := by
      intro xs
      induction xs with
      | nil => intro ys _ h; cases ys with
        | nil => rfl
        | cons y ys => simp [AV.beqs] at h
      | cons x xs ihx =>
        intro ys hs h
        cases ys with
        | nil => simp [AV.beqs] at h
        | cons y ys =>
          simp only [AV.beqs, Bool.and_eq_true] at h
          rw [ih x y (hs x (by simp)) h.1, ihx ys (fun z hz => hs z (by simp [hz])) h.2]
    have sub : ∀ {xs : List AV}, SizeOf.sizeOf xs ≤ n → ∀ x ∈ xs, SizeOf.sizeOf x ≤ n := fun h x hx => by
      have := List.sizeOf_lt_of_mem hx; omega
    cases a with
    | sl c s xs => cases b <;> simp only [AV.beq, Bool.false_eq_true, Bool.and_eq_true, decide_eq_true_eq, beq_iff_eq] at h
                   rw [h.1.1, h.1.2, list _ _ (sub (by simp at hn; omega)) h.2]
    | ept c s xs i o => cases b <;> simp only [AV.beq, Bool.false_eq_true, Bool.and_eq_true, decide_eq_true_eq, beq_iff_eq] at h
                        rw [h.1.1.1.1, h.1.1.1.2, list _ _ (sub (by simp at hn; omega)) h.1.1.2, h.1.2, h.2]
    | agg xs => cases b <;> simp only [AV.beq, Bool.false_eq_true] at h
                rw [list _ _ (sub (by simp at hn; omega)) h]
    | tup xs => cases b <;> simp only [AV.beq, Bool.false_eq_true] at h
                rw [list _ _ (sub (by simp at hn; omega)) h]
    | fn f xs => cases b <;> simp only [AV.beq, Bool.false_eq_true, Bool.and_eq_true, beq_iff_eq] at h
                 rw [h.1, list _ _ (sub (by simp at hn; omega)) h.2]
    | ifc t x => cases b <;> simp only [AV.beq, Bool.false_eq_true, Bool.and_eq_true, beq_iff_eq] at h
                 rw [h.1, ih _ _ (by simp at hn; omega) h.2]
    | str s =>
      cases b <;> simp only [AV.beq, Bool.false_eq_true, beq_iff_eq] at h
      rename_i s'
      cases s; cases s'; simp at h; rw [h]
    | _ => cases b <;> simp only [AV.beq, Bool.false_eq_true, Bool.and_eq_true, decide_eq_true_eq, beq_iff_eq] at h <;> first | rfl | rw [h] | rw [h.1, h.2]

theorem sameV_spec {v : AV} {r : Option (AV × Env × St)} (h : sameV v r = true) : ∃ x, r = some x ∧ x.1 = v := by
  cases r with
  | none => simp [sameV] at h
  | some x => exact ⟨x, rfl, AV.beq_eq _ _ _ (Nat.le_refl _) h⟩

section
variable {call : Nat → List AV → St → Option (AV × St)} {base : Nat}

/-- One operation of the run in text order. -/
structure Told (call : Nat → List AV → St → Option (AV × St)) (base : Nat) (i : MI) (c tot : Nat) (Ts : Nat → St) (e e' : Env) : Prop where
  told : ∃ g, gv e i.guard = some g ∧ (g = false → e' = putD e .junk i.dst ∧ (i.op.mut = true → Ts (c + 1) = Ts c)) ∧
    (g = true → ∃ v e1, e' = putD e1 v i.dst ∧ (i.op.mut = true → evOp call base e (Ts c) i.op = some (v, e1, Ts (c + 1))) ∧
      (i.op.mut = false → e1 = e ∧ evOp call base e (Ts c) i.op = some (v, e, Ts c) ∧ ∀ j, c ≤ j + i.back → j ≤ c + i.fwd → j ≤ tot → evOp call base e (Ts j) i.op = some (v, e, Ts j)))

theorem evD_told : ∀ (is : List MI) (c : Nat) (past : Nat → St) (ps : List St) (e : Env) (st : St) (E : Env) (S : St) (F : List St),
    (∀ m, m < c → ps[m]? = some (past (c - 1 - m))) → evD call base is ps e st = some (E, S, F) →
    ∃ (es : Nat → Env) (Ts : Nat → St), es 0 = e ∧ es is.length = E ∧ Ts c = st ∧ Ts (c + nmut is) = S ∧ (∀ j, j < c → Ts j = past j) ∧ (∀ m, m < nmut is → F[m]? = some (Ts (c + 1 + m))) ∧
      ∀ i (h : i < is.length), Told call base is[i] (c + nmut (is.take i)) (c + nmut is) Ts (es i) (es (i + 1)) := by
  intro is
  induction is with
  | nil =>
    intro c past ps e st E S F hps h
    simp only [evD, Option.some.injEq, Prod.mk.injEq] at h
    obtain ⟨rfl, rfl, rfl⟩ := h
    refine ⟨fun _ => e, fun j => if j = c then st else past j, rfl, rfl, by simp, by simp [nmut], fun j hj => by simp [Nat.ne_of_lt hj], fun m hm => by simp [nmut] at hm, fun i hi => by simp at hi⟩
  | cons i is ih =>
    intro c past ps e st E S F hps h
    simp only [evD] at h
    cases hg : gv e i.guard with
    | none => rw [hg] at h; cases h
    | some g =>
      rw [hg] at h
      -- what is told of the rest
      have glue : ∀ (es : Nat → Env) (Ts : Nat → St) (c' : Nat), c' = c + (if i.op.mut = true then 1 else 0) → Told call base i c (c + nmut (i :: is)) Ts e (es 0) → es is.length = E →
          Ts c = st → Ts (c' + nmut is) = S → (∀ j, j < c → Ts j = past j) → (∀ m, m < nmut (i :: is) → F[m]? = some (Ts (c + 1 + m))) →
          (∀ k (h : k < is.length), Told call base is[k] (c' + nmut (is.take k)) (c' + nmut is) Ts (es k) (es (k + 1))) →
          ∃ (es : Nat → Env) (Ts : Nat → St), es 0 = e ∧ es (i :: is).length = E ∧ Ts c = st ∧ Ts (c + nmut (i :: is)) = S ∧ (∀ j, j < c → Ts j = past j) ∧ (∀ m, m < nmut (i :: is) → F[m]? = some (Ts (c + 1 + m))) ∧
            ∀ k (h : k < (i :: is).length), Told call base (i :: is)[k] (c + nmut ((i :: is).take k)) (c + nmut (i :: is)) Ts (es k) (es (k + 1)) := by
        intro es Ts c' hc' h0 h1 h2 h3 h4 h5 h6
        have htot : c + nmut (i :: is) = c' + nmut is := by simp only [nmut]; omega
        refine ⟨fun | 0 => e | k + 1 => es k, Ts, rfl, by simpa using h1, h2, by rw [htot]; exact h3, h4, h5, fun k hk => ?_⟩
        cases k with
        | zero => simpa [nmut] using h0
        | succ k =>
          have h7 := h6 k (by simpa using hk)
          have : c + nmut ((i :: is).take (k + 1)) = c' + nmut (is.take k) := by simp only [List.take_succ_cons, nmut]; omega
          rw [this, htot]
          exact h7
      by_cases hm : i.op.mut = true
      · -- the state changes
        have key : ∀ (e2 : Env) (st2 : St) (E2 : Env) (S2 : St) (F2 : List St), evD call base is (st :: ps) e2 st2 = some (E2, S2, F2) → E2 = E → S2 = S → st2 :: F2 = F →
            (∀ Ts : Nat → St, Ts c = st → Ts (c + 1) = st2 → Told call base i c (c + nmut (i :: is)) Ts e e2) → ∃ (es : Nat → Env) (Ts : Nat → St), es 0 = e ∧ es (i :: is).length = E ∧ Ts c = st ∧ Ts (c + nmut (i :: is)) = S ∧ (∀ j, j < c → Ts j = past j) ∧ (∀ m, m < nmut (i :: is) → F[m]? = some (Ts (c + 1 + m))) ∧
            ∀ k (h : k < (i :: is).length), Told call base (i :: is)[k] (c + nmut ((i :: is).take k)) (c + nmut (i :: is)) Ts (es k) (es (k + 1)) := by
          rintro e2 st2 E2 S2 F2 h' rfl rfl rfl ht
          obtain ⟨es, Ts, h1, h2, h3, h4, h5, h6, h7⟩ := ih (c + 1) (fun j => if j = c then st else past j) (st :: ps) e2 st2 E2 S2 F2 (fun m hm => by
            cases m with
            | zero => simp
            | succ m =>
              have := hps m (by omega)
              simp only [List.getElem?_cons_succ, this]
              congr 1
              rw [if_neg (by omega)]; congr 1; omega) h'
          have hc : Ts c = st := by have := h5 c (by omega); simpa using this
          refine glue es Ts (c + 1) (by simp [hm]) (h1 ▸ ht Ts hc h3) h2 hc h4 (fun j hj => by have := h5 j (by omega); rwa [if_neg (by omega)] at this) (fun m hm' => ?_) h7
          cases m with
          | zero => simp [h3]
          | succ m =>
            simp only [nmut, hm, if_true] at hm'
            have := h6 m (by omega)
            rw [List.getElem?_cons_succ, this]; congr 2; omega
        cases g with
        | false =>
          simp only [hm, if_true, Option.map_eq_some_iff, Prod.mk.injEq, Prod.exists] at h
          obtain ⟨E2, S2, F2, h8, rfl, rfl, rfl⟩ := h
          exact key _ _ _ _ _ h8 rfl rfl rfl fun Ts hc hc1 => ⟨false, hg, fun _ => ⟨rfl, fun _ => by rw [hc, hc1]⟩, fun h => by cases h⟩
        | true =>
          simp only [hm, if_true, Option.bind_eq_some_iff, Option.map_eq_some_iff, Prod.mk.injEq, Prod.exists] at h
          obtain ⟨v, e1, st1, h8, E2, S2, F2, h9, rfl, rfl, rfl⟩ := h
          exact key _ _ _ _ _ h9 rfl rfl rfl fun Ts hc hc1 => ⟨true, hg, (fun h => by cases h), fun _ => ⟨v, e1, rfl, (fun _ => by rw [hc, hc1]; exact h8), (fun h => by rw [hm] at h; cases h)⟩⟩
      · have hmf : i.op.mut = false := by simpa using hm
        have key : ∀ (e2 : Env) (h : evD call base is ps e2 st = some (E, S, F)),
            (∀ Ts : Nat → St, Ts c = st → (∀ j, j < c → Ts j = past j) → (∀ m, m < nmut is → F[m]? = some (Ts (c + 1 + m))) → Told call base i c (c + nmut (i :: is)) Ts e e2) → ∃ (es : Nat → Env) (Ts : Nat → St), es 0 = e ∧ es (i :: is).length = E ∧ Ts c = st ∧ Ts (c + nmut (i :: is)) = S ∧ (∀ j, j < c → Ts j = past j) ∧ (∀ m, m < nmut (i :: is) → F[m]? = some (Ts (c + 1 + m))) ∧
            ∀ k (h : k < (i :: is).length), Told call base (i :: is)[k] (c + nmut ((i :: is).take k)) (c + nmut (i :: is)) Ts (es k) (es (k + 1)) := by
          intro e2 h ht
          obtain ⟨es, Ts, h1, h2, h3, h4, h5, h6, h7⟩ := ih c past ps e2 st E S F hps h
          refine glue es Ts c (by simp [hmf]) (h1 ▸ ht Ts h3 h5 h6) h2 h3 h4 h5 (fun m hm' => h6 m (by simp only [nmut, hmf] at hm'; simpa using hm')) h7
        cases g with
        | false =>
          simp only [hmf, Bool.false_eq_true, if_false] at h
          exact key _ h fun Ts hc _ _ => ⟨false, hg, (fun _ => ⟨rfl, fun h => by rw [hmf] at h; cases h⟩), (fun h => by cases h)⟩
        | true =>
          simp only [hmf, Bool.false_eq_true, if_false, Option.bind_eq_some_iff, Prod.exists] at h
          obtain ⟨v, e1, st1, h8, E2, S2, F2, h9, h10⟩ := h
          split at h10
          case isFalse => cases h10
          rename_i hall
          simp only [Option.some.injEq, Prod.mk.injEq] at h10
          obtain ⟨rfl, rfl, rfl⟩ := h10
          have hst := nonmut_still hmf h8
          simp only [Prod.mk.injEq] at hst
          obtain ⟨rfl, rfl⟩ := hst
          refine key _ h9 fun Ts hc hpast hF => ⟨true, hg, (fun h => by cases h), fun _ => ⟨v, e1, rfl, (fun h => by rw [hmf] at h; cases h), fun _ => ⟨rfl, by rw [hc]; exact h8, fun j hj1 hj2 hj3 => ?_⟩⟩⟩
          have same : sameV v (evOp call base e1 (Ts j) i.op) = true → evOp call base e1 (Ts j) i.op = some (v, e1, Ts j) := fun hs => by
            obtain ⟨x, hx, hxv⟩ := sameV_spec hs
            have h11 := nonmut_still hmf hx
            rw [hx]; congr 1
            exact Prod.ext hxv h11
          by_cases hjc : j = c
          · subst hjc; rw [hc]; exact h8
          · simp only [List.all_eq_true] at hall
            apply same
            by_cases hlt : j < c
            · refine hall.1 _ (List.mem_of_getElem? (i := c - 1 - j) ?_)
              rw [List.getElem?_take_of_lt (by omega), hps _ (by omega), hpast j hlt]
              congr 2; omega
            · simp only [nmut, hmf] at hj3
              refine hall.2 _ (List.mem_of_getElem? (i := j - c - 1) ?_)
              rw [List.getElem?_take_of_lt (by omega), hF _ (by simp at hj3; omega)]
              congr 2; omega
end
end Go.Ev
