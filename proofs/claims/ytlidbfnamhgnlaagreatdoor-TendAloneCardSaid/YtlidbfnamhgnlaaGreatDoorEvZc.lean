/- One function by itself: its callees are met by what was proved of them. -/
import Derived.Test.YtlidbfnamhgnlaaGreatDoorEvZb
namespace Go.Ev
open Go

/-- One function, evaluated; calls are answered by `call`. -/
def evFn (call : Nat → List AV → St → Option (AV × St)) (k : Nat) (mf : MF) (args : List AV) (st : St) : Option (AV × St) :=
  if args.length ≤ mf.nt then (evC call k mf.body (env0 args) st).bind fun r => match r.1 with
    | .exit _ => none
    | _ => (evRs r.2.1 r.2.2 mf.res).map fun vs => (resOf vs, r.2.2)
  else none

/-- A function of the program that was compiled. -/
structure Has (P : Program) (f : Nat) (mf : MF) : Prop where
  mixed : P.follows .mixedOrders = true
  ex : ∃ fn, P.funcs[f]? = some fn ∧ compF P fn = some mf ∧ (fn.name == "runtime.NumGoroutine") = false

def okCall (P : Program) (call : Nat → List AV → St → Option (AV × St)) : Prop := ∀ f args st v st', call f args st = some (v, st') → CallOk P f args st v st'

theorem evFn_ok {P : Program} {f : Nat} {mf : MF} (h : Has P f mf) {call : Nat → List AV → St → Option (AV × St)} (hcall : okCall P call) {k : Nat} {args : List AV} {st st1 : St} {v : AV} (hev : evFn call k mf args st = some (v, st1)) :
    CallOk P f args st v st1 := by
  obtain ⟨fn, h1, h2, h3⟩ := h.ex
  simp only [evFn] at hev
  split at hev
  · rename_i hal
    simp only [Option.bind_eq_some_iff, Prod.exists] at hev
    obtain ⟨x, e', s1, h4, h5⟩ := hev
    cases x with
    | exit id => cases h5
    | normal =>
      simp only [Option.map_eq_some_iff, Prod.mk.injEq] at h5
      obtain ⟨vs, h6, rfl, rfl⟩ := h5
      exact fn_sound h.mixed hcall h1 h3 h2 hal h4 (by simp) h6
    | ret =>
      simp only [Option.map_eq_some_iff, Prod.mk.injEq] at h5
      obtain ⟨vs, h6, rfl, rfl⟩ := h5
      exact fn_sound h.mixed hcall h1 h3 h2 hal h4 (by simp) h6
  · cases hev

/-- Callees by their numbers. -/
def tab : List (Nat × (List AV → St → Option (AV × St))) → Nat → List AV → St → Option (AV × St)
  | [], _ => fun _ _ => none
  | (g, p) :: l, f => if f = g then p else tab l f

def okSpec (P : Program) (q : Nat × (List AV → St → Option (AV × St))) : Prop := ∀ args st v st', q.2 args st = some (v, st') → CallOk P q.1 args st v st'

theorem tab_ok {P : Program} : ∀ {l : List (Nat × (List AV → St → Option (AV × St)))}, (∀ q ∈ l, okSpec P q) → okCall P (tab l) := by
  intro l
  induction l with
  | nil => intro _ f args st v st' h; simp [tab] at h
  | cons q l ih =>
    intro hl f args st v st' h
    obtain ⟨g, p⟩ := q
    simp only [tab] at h
    split at h
    · rename_i hfg
      subst hfg
      exact hl (f, p) (by simp) args st v st' h
    · exact ih (fun q hq => hl q (by simp [hq])) f args st v st' h

theorem tab_nil (P : Program) : ∀ q ∈ ([] : List (Nat × (List AV → St → Option (AV × St)))), okSpec P q := fun q hq => by simp at hq
theorem tab_cons {P : Program} {q : Nat × (List AV → St → Option (AV × St))} {l : List (Nat × (List AV → St → Option (AV × St)))} (h : okSpec P q) (hl : ∀ q ∈ l, okSpec P q) : ∀ r ∈ q :: l, okSpec P r := fun r hr => by
  rcases List.mem_cons.1 hr with rfl | hr
  · exact h
  · exact hl r hr
end Go.Ev
