/- Code, functions, programs: what the evaluator answers, the machine does. -/
import Derived.Test.YtlidbfnamhgnlaaGreatDoorEvV
namespace Go.Ev
open Go

section
variable {P : Program} {call : Nat → List AV → St → Option (AV × St)}

theorem cond_opd {γ : Gh} {st : St} {w : World} {nt : Nat} {e : Env} {a : Act} (hE : RelE γ st w nt e a) {c : Operand} {c' : Opd} (h : opdOf c = some c') {b : Bool} (hb : c'.ev e = .bool b) : a.eval c = .bool b := by
  have := relOpd hE h
  rw [hb] at this
  exact relV_bool this

theorem code_sound (hm : P.follows .mixedOrders = true) (hcall : ∀ f args st v st', call f args st = some (v, st') → CallOk P f args st v st') {nt k : Nat} :
    ∀ (c : Code) (m : MC), compC P nt c = some m → ∀ (γ : Gh) (st : St) (w : World) (e : Env) (a : Act) (x : X) (e' : Env) (st' : St), RelS γ st w → RelE γ st w nt e a → evC call k m e st = some (x, e', st') →
    ∀ Q : Exit → Act → World → Prop, (∀ γ' w' a', Step γ st w γ' st' w' (fun id => id < st.next) → RelE γ' st' w' nt e' a' → Q (MX x) a' w') → c.wp P Q a w := by
  intro c
  induction c with
  | skip =>
    intro m hc γ st w e a x e' st' hS hE hev Q hQ
    simp only [compC, Option.some.injEq] at hc; subst hc
    simp only [evC, Option.some.injEq, Prod.mk.injEq] at hev
    obtain ⟨rfl, rfl, rfl⟩ := hev
    exact wp_skip (hQ γ w a (Step.refl hS _) hE)
  | region id ops draw =>
    intro m hc γ st w e a x e' st' hS hE hev Q hQ
    cases draw with
    | true =>
      simp only [compC, if_true] at hc
      exact dreg_sound hm hcall hc hS hE hev hQ
    | false =>
      simp only [compC, Bool.false_eq_true, if_false, Option.map_eq_some_iff] at hc
      obtain ⟨is, hc, rfl⟩ := hc
      simp only [evC, Option.map_eq_some_iff, Prod.mk.injEq, Prod.exists] at hev
      obtain ⟨e1, s1, hev, rfl, rfl, rfl⟩ := hev
      exact reg_sound hcall hc hS hE hev hQ
  | seq c1 c2 ih1 ih2 =>
    intro m hc γ st w e a x e' st' hS hE hev Q hQ
    simp only [compC] at hc
    split at hc
    · rename_i m1 m2 h1 h2
      simp only [Option.some.injEq] at hc; subst hc
      simp only [evC, Option.bind_eq_some_iff, Prod.exists] at hev
      obtain ⟨x1, e1, s1, h3, h4⟩ := hev
      refine wp_seq (ih1 m1 h1 γ st w e a x1 e1 s1 hS hE h3 _ (fun γ' w' a' hst hE' => ?_))
      cases x1 with
      | normal =>
        simp only at h4
        exact ih2 m2 h2 γ' s1 w' e1 a' x e' st' hst.rel hE' h4 Q (fun γ2 w2 a2 hst2 hE2 => hQ γ2 w2 a2 (hst.trans hst2 (fun _ h => h) (fun id h => by have := hst.next; omega)) hE2)
      | exit id =>
        simp only [Option.some.injEq, Prod.mk.injEq] at h4
        obtain ⟨rfl, rfl, rfl⟩ := h4
        exact hQ γ' w' a' hst hE'
      | ret =>
        simp only [Option.some.injEq, Prod.mk.injEq] at h4
        obtain ⟨rfl, rfl, rfl⟩ := h4
        exact hQ γ' w' a' hst hE'
    · cases hc
  | cond c c1 c2 ih1 ih2 =>
    intro m hc γ st w e a x e' st' hS hE hev Q hQ
    simp only [compC] at hc
    split at hc
    · rename_i c' m1 m2 h0 h1 h2
      simp only [Option.some.injEq] at hc; subst hc
      simp only [evC] at hev
      split at hev
      · rename_i hb
        exact wp_cond_true (cond_opd hE h0 hb) (ih1 m1 h1 γ st w e a x e' st' hS hE hev Q hQ)
      · rename_i hb
        exact wp_cond_false (cond_opd hE h0 hb) (ih2 m2 h2 γ st w e a x e' st' hS hE hev Q hQ)
      · cases hev
    · cases hc
  | block id c ih =>
    intro m hc γ st w e a x e' st' hS hE hev Q hQ
    simp only [compC, Option.map_eq_some_iff] at hc
    obtain ⟨m1, h1, rfl⟩ := hc
    simp only [evC, Option.map_eq_some_iff, Prod.exists] at hev
    obtain ⟨x1, e1, s1, h3, h4⟩ := hev
    refine wp_block (ih m1 h1 γ st w e a x1 e1 s1 hS hE h3 _ (fun γ' w' a' hst hE' => ?_))
    cases x1 with
    | normal =>
      simp only [Prod.mk.injEq] at h4
      obtain ⟨rfl, rfl, rfl⟩ := h4
      exact hQ γ' w' a' hst hE'
    | exit id' =>
      simp only [Prod.mk.injEq] at h4
      obtain ⟨rfl, rfl, rfl⟩ := h4
      have := hQ γ' w' a' hst hE'
      simp only [MX, Exit.inBlock]
      split
      · rename_i h; simpa [h, MX] using this
      · rename_i h; simpa [h, MX] using this
    | ret =>
      simp only [Prod.mk.injEq] at h4
      obtain ⟨rfl, rfl, rfl⟩ := h4
      exact hQ γ' w' a' hst hE'
  | loop c ih =>
    intro m hc γ st w e a x e' st' hS hE hev Q hQ
    simp only [compC, Option.map_eq_some_iff] at hc
    obtain ⟨m1, h1, rfl⟩ := hc
    simp only [evC] at hev
    have key : ∀ (n : Nat) (γ1 : Gh) (st1 : St) (w1 : World) (e1 : Env) (a1 : Act), Step γ st w γ1 st1 w1 (fun id => id < st.next) → RelE γ1 st1 w1 nt e1 a1 → loopN (evC call k m1) n e1 st1 = some (x, e', st') → ∀ (b : Frame) (kk : List Item) (cs : List Frame),
        ∃ ex a' w', Q ex a' w' ∧ Arrives P (lone (b.at a1 (.code c :: .inLoop c :: kk)) cs w1) b kk cs ex a' w' := by
      intro n
      induction n with
      | zero => intro γ1 st1 w1 e1 a1 _ _ h; simp [loopN] at h
      | succ n ihn =>
        intro γ1 st1 w1 e1 a1 hst hE1 h b kk cs
        simp only [loopN, Option.bind_eq_some_iff, Prod.exists] at h
        obtain ⟨x2, e2, s2, h2, h3⟩ := h
        have hwp := ih m1 h1 γ1 st1 w1 e1 a1 x2 e2 s2 hst.rel hE1 h2 (fun ex a2 w2 => ∃ γ2, ex = MX x2 ∧ Step γ st w γ2 s2 w2 (fun id => id < st.next) ∧ RelE γ2 s2 w2 nt e2 a2)
          (fun γ2 w2 a2 hst2 hE2 => ⟨γ2, rfl, hst.trans hst2 (fun _ h => h) (fun id h => by have := hst.next; omega), hE2⟩)
        obtain ⟨ex, a2, w2, ⟨γ2, rfl, hst2, hE2⟩, harr⟩ := hwp b (.inLoop c :: kk) cs
        cases x2 with
        | normal =>
          simp only at h3
          obtain ⟨ex, a3, w3, hq, harr2⟩ := ihn γ2 s2 w2 e2 a2 hst2 hE2 h3 b kk cs
          exact ⟨ex, a3, w3, hq, .of_steps (Steps.trans harr (.one step_inLoop)) harr2⟩
        | exit id =>
          simp only [Option.some.injEq, Prod.mk.injEq] at h3
          obtain ⟨rfl, rfl, rfl⟩ := h3
          exact ⟨_, a2, w2, hQ γ2 w2 a2 hst2 hE2, .pass (x := .inLoop c) rfl (fun _ _ => .inl (by simp [MX])) harr⟩
        | ret =>
          simp only [Option.some.injEq, Prod.mk.injEq] at h3
          obtain ⟨rfl, rfl, rfl⟩ := h3
          exact ⟨_, a2, w2, hQ γ2 w2 a2 hst2 hE2, .pass (x := .inLoop c) rfl (fun _ _ => .inl (by simp [MX])) harr⟩
    intro b kk cs
    obtain ⟨ex, a', w', hq, harr⟩ := key k γ st w e a (Step.refl hS _) hE hev b kk cs
    exact ⟨ex, a', w', hq, .of_steps (.one step_loop) harr⟩
  | exit id =>
    intro m hc γ st w e a x e' st' hS hE hev Q hQ
    simp only [compC, Option.some.injEq] at hc; subst hc
    simp only [evC, Option.some.injEq, Prod.mk.injEq] at hev
    obtain ⟨rfl, rfl, rfl⟩ := hev
    exact wp_exit (hQ γ w a (Step.refl hS _) hE)
  | ret =>
    intro m hc γ st w e a x e' st' hS hE hev Q hQ
    simp only [compC, Option.some.injEq] at hc; subst hc
    simp only [evC, Option.some.injEq, Prod.mk.injEq] at hev
    obtain ⟨rfl, rfl, rfl⟩ := hev
    exact wp_ret (hQ γ w a (Step.refl hS _) hE)
  | _ => intro m hc; simp [compC] at hc

def resFn (tmps : Array Value) : ResultVar → Sem Value
  | .tmp t => pure (tmps.getD t undef)
  | .cell p t => do loadVar t (← asAddr (tmps.getD p undef))

theorem results_eq (fn : Func) (tmps : Array Value) : results fn tmps = (do
    let vs ← fn.results.mapM (resFn tmps)
    pure (if h : vs.size = 1 then vs[0] else .tuple vs)) := by
  unfold results
  congr 1

theorem sound_result {γ : Gh} {st : St} {w : World} {nt : Nat} {e : Env} {a : Act} (hS : RelS γ st w) (hE : RelE γ st w nt e a) {r : ResultVar} {m : MR} (hc : compR P r = some m) {v : AV} (hev : evR e st m = some v) :
    ∃ u, (resFn a.tmps r).run P w = .ok u w ∧ RelV ⟨γ, st.gens, w⟩ v u := by
  cases r with
  | tmp t =>
    simp only [compR, Option.some.injEq] at hc; subst hc
    simp only [evR, Option.some.injEq] at hev; subst hev
    exact ⟨_, rfl, hE.rel t⟩
  | cell p t =>
    simp only [compR] at hc
    split at hc
    · rename_i ag sz h1 h2
      split at hc
      · rename_i hok
        simp only [Option.some.injEq] at hc; subst hc
        simp only [evR] at hev
        obtain ⟨ad, u, hva, hrun, hv⟩ := sound_load hS h1 h2 (by simpa using hok) (hE.rel p) hev
        refine ⟨u, ?_, hv⟩
        simp only [resFn, hva, asAddr, Sem.run_bind, Sem.run_pure, Result.andThen_ok]
        exact hrun
      · cases hc
    · cases hc

theorem sound_results {γ : Gh} {st : St} {w : World} {nt : Nat} {e : Env} {a : Act} (hS : RelS γ st w) (hE : RelE γ st w nt e a) : ∀ (rs : List ResultVar) (ms : List MR) (vs : List AV), compRs P rs = some ms → evRs e st ms = some vs →
    ∃ us : List Value, (rs.mapM (resFn a.tmps)).run P w = .ok us w ∧ vs.length = us.length ∧ ∀ i (h : i < vs.length), RelV ⟨γ, st.gens, w⟩ vs[i] (us.getD i undef) := by
  intro rs
  induction rs with
  | nil =>
    intro ms vs hc hev
    simp only [compRs, Option.some.injEq] at hc; subst hc
    simp only [evRs, Option.some.injEq] at hev; subst hev
    exact ⟨[], rfl, rfl, fun i h => by simp at h⟩
  | cons r rs ih =>
    intro ms vs hc hev
    simp only [compRs] at hc
    split at hc
    · rename_i m ms' h1 h2
      simp only [Option.some.injEq] at hc; subst hc
      simp only [evRs, Option.bind_eq_some_iff, Option.map_eq_some_iff] at hev
      obtain ⟨v, h3, vs', h4, rfl⟩ := hev
      obtain ⟨u, h5, h6⟩ := sound_result hS hE h1 h3
      obtain ⟨us, h7, h8, h9⟩ := ih ms' vs' h2 h4
      refine ⟨u :: us, ?_, by simp [h8], fun i hi => ?_⟩
      · rw [List.mapM_cons]
        simp only [Sem.run_bind, Sem.run_pure]
        rw [h5, Result.andThen_ok, h7]; rfl
      · cases i with
        | zero => exact h6
        | succ i => simpa using h9 i (by simpa using hi)
    · cases hc

theorem fn_sound (hm : P.follows .mixedOrders = true) (hcall : ∀ f args st v st', call f args st = some (v, st') → CallOk P f args st v st') {f : Nat} {fn : Func} (hf : P.funcs[f]? = some fn) (hnm : (fn.name == "runtime.NumGoroutine") = false)
    {mf : MF} (hc : compF P fn = some mf) {k : Nat} {args : List AV} (hal : args.length ≤ mf.nt) {st : St} {x : X} {e' : Env} {st' : St} (hev : evC call k mf.body (env0 args) st = some (x, e', st')) (hx : ∀ id, x ≠ .exit id)
    {vs : List AV} (hres : evRs e' st' mf.res = some vs) : CallOk P f args st (resOf vs) st' := by
  simp only [compF] at hc
  split at hc
  · cases hc
  rename_i c hbody
  split at hc
  case h_2 => cases hc
  rename_i m rs h1 h2
  simp only [Option.some.injEq] at hc; subst hc
  refine ⟨⟨fn, hf, hnm, by simp [hbody]⟩, fun γ w us hS hl hr => ?_⟩
  refine calls_of_wp hf hbody ?_
  simp only at hal hev hres
  have hE : RelE γ st w fn.ntmps (env0 args) { tmps := us ++ Array.replicate (fn.ntmps - us.size) undef, defers := [] } := by
    refine ⟨rfl, by simp; omega, fun t => ?_⟩
    simp only [env0]
    by_cases ht : t < args.length
    · rw [List.getElem?_eq_getElem ht, Option.getD_some, Array.getD_eq_getD_getElem?, Array.getElem?_append_left (by omega)]
      have := hr t ht
      rwa [Array.getD_eq_getD_getElem?] at this
    · rw [List.getElem?_eq_none (by omega), Option.getD_none, Array.getD_eq_getD_getElem?, Array.getElem?_append_right (by omega), Array.getElem?_replicate]
      split <;> exact .junk
  refine code_sound hm hcall c m h1 γ st w _ _ x e' st' hS hE hev _ (fun γ' w' a' hst hE' => ?_)
  obtain ⟨ws, hrun, hlen, hrel⟩ := sound_results hst.rel hE' fn.results.toList rs vs h2 hres
  have hresults : ∃ u, (results fn a'.tmps).run P w' = .ok u w' ∧ RelV ⟨γ', st'.gens, w'⟩ (resOf vs) u := by
    have : ∃ u, (results fn a'.tmps).run P w' = .ok u w' ∧ u = (if h : ws.toArray.size = 1 then ws.toArray[0] else .tuple ws.toArray) := by
      refine ⟨_, ?_, rfl⟩
      simp only [results_eq, Sem.run_bind]
      rw [Array.mapM_eq_mapM_toList]
      simp only [map_eq_pure_bind, Sem.run_bind]
      rw [hrun]; rfl
    obtain ⟨u, hu, rfl⟩ := this
    refine ⟨_, hu, ?_⟩
    cases vs with
    | nil =>
      have : ws = [] := List.length_eq_zero_iff.1 hlen.symm
      subst this
      exact .tup [] _ rfl (fun i h => by simp at h)
    | cons v vs =>
      cases vs with
      | nil =>
        obtain ⟨u, rfl⟩ : ∃ u, ws = [u] := List.length_eq_one_iff.1 hlen.symm
        have := hrel 0 (by simp)
        simpa [resOf] using this
      | cons v2 vs =>
        have hne : ¬ ws.toArray.size = 1 := by simp; simp at hlen; omega
        rw [dif_neg hne]
        refine .tup _ _ (by simpa using hlen) (fun i hi => ?_)
        have := hrel i hi
        simpa [Array.getD_eq_getD_getElem?, List.getD_eq_getElem?_getD] using this
  obtain ⟨u, hu, hv⟩ := hresults
  cases x with
  | normal => exact ⟨hE'.defers, u, hu, u, γ', rfl, hst, hv⟩
  | ret => exact ⟨hE'.defers, u, hu, u, γ', rfl, hst, hv⟩
  | exit id => exact absurd rfl (hx id)

end

/-- The evaluator and the machine. -/
theorem evF_sound {P : Program} (hm : P.follows .mixedOrders = true) {prim : Nat → Option (List AV → St → Option (AV × St))} {F : Nat → Option MF}
    (hp : ∀ f p, prim f = some p → ∀ args st v st', p args st = some (v, st') → CallOk P f args st v st')
    (hF : ∀ f mf, F f = some mf → ∃ fn, P.funcs[f]? = some fn ∧ compF P fn = some mf ∧ (fn.name == "runtime.NumGoroutine") = false) :
    ∀ (k f : Nat) (args : List AV) (st : St) (v : AV) (st' : St), evF prim F k f args st = some (v, st') → CallOk P f args st v st' := by
  intro k
  induction k with
  | zero => intro f args st v st' h; simp [evF] at h
  | succ k ih =>
    intro f args st v st' h
    simp only [evF] at h
    split at h
    · rename_i p hpf; exact hp f p hpf args st v st' h
    · split at h
      · cases h
      · rename_i mf hFf
        obtain ⟨fn, h1, h2, h3⟩ := hF f mf hFf
        split at h
        · rename_i hal
          simp only [Option.bind_eq_some_iff, Prod.exists] at h
          obtain ⟨x, e', s1, h4, h5⟩ := h
          cases x with
          | exit id => cases h5
          | normal =>
            simp only [Option.map_eq_some_iff, Prod.mk.injEq] at h5
            obtain ⟨vs, h6, rfl, rfl⟩ := h5
            exact fn_sound hm (ih) h1 h3 h2 hal h4 (by simp) h6
          | ret =>
            simp only [Option.map_eq_some_iff, Prod.mk.injEq] at h5
            obtain ⟨vs, h6, rfl, rfl⟩ := h5
            exact fn_sound hm (ih) h1 h3 h2 hal h4 (by simp) h6
        · cases h
end Go.Ev
