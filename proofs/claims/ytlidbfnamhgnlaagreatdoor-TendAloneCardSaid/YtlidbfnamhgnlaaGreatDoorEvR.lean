/- The code of a function, and calls: what the evaluator says, the machine does. -/
import Derived.Test.YtlidbfnamhgnlaaGreatDoorEvQ
import Derived.Orders
namespace Go.Ev
open Go

/-- A function that can be entered. -/
def Entr (P : Program) (f : Nat) : Prop := ∃ fn, P.funcs[f]? = some fn ∧ (fn.name == "runtime.NumGoroutine") = false ∧ fn.body.isNone = false

/-- What a call of the evaluator tells of a call of the machine's. -/
def CallOk (P : Program) (f : Nat) (args : List AV) (st : St) (v : AV) (st' : St) : Prop :=
  Entr P f ∧ ∀ (γ : Gh) (w : World) (vs : Array Value), RelS γ st w → args.length = vs.size → (∀ i (h : i < args.length), RelV ⟨γ, st.gens, w⟩ args[i] (vs.getD i undef)) →
    Calls P f vs w fun e w' => ∃ u γ', e = .returned u ∧ Step γ st w γ' st' w' (fun id => id < st.next) ∧ RelV ⟨γ', st'.gens, w'⟩ v u

def MX : X → Exit
  | .normal => .normal
  | .exit id => .exit id
  | .ret => .ret

section
variable {P : Program} {call : Nat → List AV → St → Option (AV × St)}

theorem put_rel {γ : Gh} {st : St} {w : World} {nt : Nat} {e : Env} {a : Act} (hE : RelE γ st w nt e a) {v : AV} {u : Value} (hv : RelV ⟨γ, st.gens, w⟩ v u) {dst : Option Nat} (hd : ∀ d, dst = some d → d < nt) :
    RelE γ st w nt (putD e v dst) (a.put dst u) := by
  cases dst with
  | none => exact hE
  | some d =>
    have hdn := hd d rfl
    refine ⟨hE.defers, by simp [Act.put, hE.size], fun t => ?_⟩
    simp only [putD, Act.put]
    by_cases h : t = d
    · subst h
      rw [upd_eq]
      have : (a.tmps.setIfInBounds t u).getD t undef = u := by
        have := hE.size
        simp [Array.getD_eq_getD_getElem?, show t < a.tmps.size by omega]
      rw [this]; exact hv
    · rw [upd_ne _ _ _ _ h]
      have : (a.tmps.setIfInBounds d u).getD t undef = a.tmps.getD t undef := by
        rw [Array.getD_eq_getD_getElem?, Array.getD_eq_getD_getElem?, Array.getElem?_setIfInBounds_ne (Ne.symm h)]
      rw [this]; exact hE.rel t

set_option maxHeartbeats 1000000 in
theorem comp_plain {ops : Array Oper} {k : Nat} {o : Oper} {m : MOp} (h : compOp P ops k o = some m) : m.plain = true ∨
    (∃ c f l, o.op = .call c ∧ c.callee = .value (.func f) ∧ opdsOf c.args.toList = some l ∧ m = .call f l) ∨
    (∃ c x x' l, o.op = .call c ∧ c.callee = .value x ∧ opdOf x = some x' ∧ opdsOf c.args.toList = some l ∧ m = .callV x' l) := by
  have bin : ∀ {op : BinOp} {t : TypeId} {x y : Opd}, binOfT P op t x y = some m → m.plain = true := by
    intro op t x y hb
    have eqp : ∀ {op : BinOp} {neg : Bool}, eqOfT P op neg t x y = some m → m.plain = true := by
      intro op neg hb
      simp only [eqOfT] at hb
      (repeat' split at hb) <;> first | (cases hb; done) | (simp at hb; subst hb; rfl) | (simp only [Option.map_eq_some_iff] at hb; obtain ⟨_, _, rfl⟩ := hb; rfl)
    cases op <;> first | exact eqp hb | (simp [binOfT] at hb; subst hb; rfl)
  cases ho : o.op with
  | call c =>
    simp only [compOp, ho] at h
    split at h
    · rename_i f hcal
      simp only [Option.map_eq_some_iff] at h
      obtain ⟨l, hl, rfl⟩ := h
      exact .inr (.inl ⟨c, f, l, rfl, hcal, hl, rfl⟩)
    · rename_i x hne hcal
      split at h
      · rename_i x' l hx hl
        simp at h
        exact .inr (.inr ⟨c, x, x', l, rfl, hcal, hx, hl, h.symm⟩)
      · cases h
    all_goals
      left
      (repeat' split at h) <;> first | (cases h; done) | (simp at h; subst h; rfl) | (simp only [Option.map_eq_some_iff] at h; obtain ⟨_, _, rfl⟩ := h; rfl)
  | binOp op t x y yt =>
    simp only [compOp, ho] at h
    split at h
    · exact .inl (bin h)
    · cases h
  | next x is =>
    left
    cases is with
    | true => simp only [compOp, ho] at h; simp only [Option.map_eq_some_iff] at h; obtain ⟨_, _, rfl⟩ := h; rfl
    | false => simp [compOp, ho] at h
  | makeFunc c first cs =>
    left
    cases c with
    | func f =>
      simp only [compOp, ho] at h
      split at h
      · simp only [Option.map_eq_some_iff] at h; obtain ⟨_, _, rfl⟩ := h; rfl
      · cases h
    | _ => simp [compOp, ho] at h
  | slice t x lo hi mx =>
    left
    simp only [compOp, ho] at h
    split at h
    · simp at h; subst h; rfl
    · simp only [Option.bind_eq_some_iff] at h
      obtain ⟨_, _, h⟩ := h
      split at h
      · cases h
      · simp at h; subst h; rfl
    · cases h
  | _ =>
    left
    simp only [compOp, ho] at h
    (repeat' split at h) <;> first | (cases h; done) | (simp only [Option.some.injEq] at h; subst h; rfl) | (simp only [Option.map_eq_some_iff] at h; obtain ⟨_, _, rfl⟩ := h; rfl)

theorem Fresh.mono {γ γ' : Gh} {st st' : St} {w w' : World} {N : Nat → Prop} (h : Step γ st w γ' st' w' N) {id : Nat} {m : MOp} (hf : Fresh γ st id m) (hn : N id) : Fresh γ' st' id m := by
  obtain ⟨h1, h2, h3⟩ := h.fam id hn
  obtain ⟨h4, h5⟩ := h3 hf.box
  exact ⟨h1.trans hf.fam, h2.trans hf.box, h5.trans hf.iter, h4.trans hf.pre⟩

/-- One operation of a region. -/
theorem one_sound (hcall : ∀ f args st v st', call f args st = some (v, st') → CallOk P f args st v st') {nt : Nat} {ops : Array Oper} {base k : Nat} {o : Oper} {i : MI} (h1 : compI P nt ops k o = some i) (ho : ops[k]? = some o)
    {γ : Gh} {st : St} {w : World} {e : Env} {a : Act} (hS : RelS γ st w) (hE : RelE γ st w nt e a) (hnext : base + ops.size ≤ st.next) (hfr : Fresh γ st (base + k) i.op) {K : Act → World → Prop} {Q : Exit → Act → World → Prop}
    {g : Bool} (hg : gv e i.guard = some g)
    (hfalse : g = false → ∀ a', RelE γ st w nt (putD e .junk i.dst) a' → K a' w)
    (htrue : g = true → ∃ v e1 st1, evOp call base e st i.op = some (v, e1, st1) ∧ ∀ γ' w' a', Step γ st w γ' st1 w' (fun id => id ≠ base + k ∧ id < st.next) → RelE γ' st1 w' nt (putD e1 v i.dst) a' → K a' w') :
    wpOp P ops Q k K a w := by
  have hks : k < ops.size := by
    rcases Nat.lt_or_ge k ops.size with h | h
    · exact h
    · rw [Array.getElem?_eq_none h] at ho; cases ho
  simp only [wpOp, ho]
  simp only [compI] at h1
  by_cases hdst : dstOk nt o.dst = true
  case neg => rw [if_neg hdst] at h1; cases h1
  rw [if_pos hdst] at h1
  have hd : ∀ d, o.dst = some d → d < nt := fun d hd => by rw [hd] at hdst; simpa [dstOk] using hdst
  -- performed
  have perform : g = true → ∀ m, compOp P ops k o = some m → i.op = m → i.dst = o.dst → o.wp P a w K Q := by
    intro hgt m hm hio hid
    obtain ⟨v, e1, st1, h3, hK⟩ := htrue hgt
    rw [hio] at h3 hfr
    rw [hid] at hK
    have next : ∀ (γ' : Gh) (w' : World) (u : Value), Step γ st w γ' st1 w' (fun id => id ≠ base + k ∧ id < st.next) → RelE γ' st1 w' nt e1 a → RelV ⟨γ', st1.gens, w'⟩ v u → K (a.put o.dst u) w' :=
      fun γ' w' u hst hE' hv => hK γ' w' _ hst (put_rel hE' hv hd)
    by_cases hp : m.plain = true
    · obtain ⟨γ', w', u, nx, hrun, hnx, hst, hE', hv⟩ := op_sound (call := call) hm hp (by omega) hfr hE hS h3
      simp only [Oper.wp, hrun]
      rcases hnx with rfl | ⟨rfl, rfl⟩
      · rw [Oper.upon_value]; exact next γ' w' u (hst.weak fun _ h => h.1) hE' hv
      · rw [Oper.upon_skip]; exact next γ' w' undef (hst.weak fun _ h => h.1) hE' hv
    · -- a call
      have docall : ∀ (f : Nat) (args : List AV) (vs : Array Value), (execOp a.eval o).run P w = (callFunc f vs).run P w → args.length = vs.size → (∀ i (h : i < args.length), RelV ⟨γ, st.gens, w⟩ args[i] (vs.getD i undef)) →
          call f args st = some (v, st1) → e1 = e → o.wp P a w K Q := by
        intro f args vs hrun hl hr hcl he
        subst he
        obtain ⟨⟨fn, hfn, hn1, hn2⟩, hcl⟩ := hcall f args st v st1 hcl
        have hent : (callFunc f vs).run P w = .ok (.enter f vs) w := by
          simp only [callFunc, Sem.run_bind, run_program, Result.andThen_ok, hfn, hn1, hn2]
          simp
        simp only [Oper.wp, hrun, hent]
        rw [Oper.upon_enter]
        refine (hcl γ w vs hS hl hr).mono ?_
        rintro en w' ⟨u, γ', rfl, hst, hv⟩
        exact next γ' w' u (hst.weak fun _ h => h.2) (hE.mono hst.le) hv
      have hall : ∀ (c : Call) {l' : List Opd}, opdsOf c.args.toList = some l' → (l'.map (·.ev e)).length = (c.args.map a.eval).size ∧ ∀ i (h : i < (l'.map (·.ev e)).length), RelV ⟨γ, st.gens, w⟩ (l'.map (·.ev e))[i] ((c.args.map a.eval).getD i undef) := by
        intro c l' hl'
        have h5 := relOpds hE hl'
        have h6 := h5.length
        refine ⟨by simpa using h6, fun i hi => ?_⟩
        have h7 := h5.get i hi (by omega)
        simp at hi h6
        have : (c.args.map a.eval).getD i undef = (c.args.toList.map a.eval)[i]'(by simp; omega) := by
          simp [Array.getD_eq_getD_getElem?, show i < c.args.size by omega]
        rw [this]; exact h7
      rcases comp_plain hm with hp' | ⟨c, f, l', ho', hcal, hl', rfl⟩ | ⟨c, x, x', l', ho', hcal, hx, hl', rfl⟩
      · exact absurd hp' hp
      · simp only [evOp, Option.map_eq_some_iff, Prod.mk.injEq, Prod.exists] at h3
        obtain ⟨v1, s1, h5, rfl, rfl, rfl⟩ := h3
        obtain ⟨h6, h7⟩ := hall c hl'
        refine docall f _ (c.args.map a.eval) ?_ h6 h7 h5 rfl
        simp only [execOp, ho', resolve, hcal, Sem.run_bind, Act.eval, Deferred.ofValue, Sem.run_pure, Result.andThen_ok, invoke]
        congr 1
        apply congrArg
        apply Array.ext'
        simp
      · simp only [evOp] at h3
        split at h3
        · rename_i g cs hg
          simp only [Option.map_eq_some_iff, Prod.mk.injEq, Prod.exists] at h3
          obtain ⟨v1, s1, h5, rfl, rfl, rfl⟩ := h3
          obtain ⟨h6, h7⟩ := hall c hl'
          have hrx := relOpd hE hx
          rw [hg] at hrx
          obtain ⟨us, hva, hul, hur⟩ := relV_fn hrx
          refine docall g _ (c.args.map a.eval ++ us) ?_ (by simp at h6 ⊢; omega) (fun i hi => ?_) h5 rfl
          · simp only [execOp, ho', resolve, hcal, Sem.run_bind, hva, Deferred.ofValue, Sem.run_pure, Result.andThen_ok, invoke]
            congr 1
            apply congrArg
            apply Array.ext'
            simp
          · have h6' : (l'.map fun x => x.ev e).length = (c.args.map a.eval).size := h6
            by_cases hi1 : i < (l'.map fun x => x.ev e).length
            · rw [List.getElem_append_left hi1, Array.getD_eq_getD_getElem?, Array.getElem?_append_left (by omega)]
              have := h7 i hi1
              rwa [Array.getD_eq_getD_getElem?] at this
            · rw [List.getElem_append_right (by omega), Array.getD_eq_getD_getElem?, Array.getElem?_append_right (by omega)]
              have := hur (i - (l'.map fun x => x.ev e).length) (by rw [List.length_append] at hi; omega)
              rw [Array.getD_eq_getD_getElem?] at this
              rwa [← h6']
        · cases h3
  -- skipped
  have skip : g = false → i.dst = o.dst → K (a.put o.dst undef) w := by
    intro hgf hid
    rw [hid] at hfalse
    exact hfalse hgf _ (put_rel hE .junk hd)
  split at h1
  · rename_i hg'
    simp only [Option.map_eq_some_iff] at h1
    obtain ⟨m, hm, rfl⟩ := h1
    simp [gv] at hg; subst hg
    rw [if_pos (by simp [Region.wanted, hg'])]
    exact .inl (perform rfl m hm rfl rfl)
  · rename_i j b hg'
    split at h1
    · rename_i t ht
      simp only [Option.map_eq_some_iff] at h1
      obtain ⟨m, hm, rfl⟩ := h1
      simp only [gv] at hg
      have hrt := hE.rel t
      cases het : e t with
      | bool c =>
        rw [het] at hrt hg
        have hva := relV_bool hrt
        have hy : yielded ops a.tmps j = some c := by
          simp only [yielded, ht, Option.bind_some]
          have : a.tmps[t]? = some (.bool c) := by
            rw [Array.getD_eq_getD_getElem?] at hva
            cases h : a.tmps[t]? with
            | none => rw [h] at hva; simp [undef] at hva
            | some u => rw [h] at hva; simp at hva; rw [hva]
          rw [this]
        simp only [Option.some.injEq] at hg
        cases hcb : (c == b) with
        | true =>
          rw [hcb] at hg
          rw [if_pos (by simp [Region.wanted, hg', hy]; simpa using hcb)]
          exact .inl (perform hg.symm m hm rfl rfl)
        | false =>
          rw [hcb] at hg
          rw [if_neg (by simp [Region.wanted, hg', hy]; simpa using hcb)]
          exact skip hg.symm rfl
      | junk =>
        rw [het] at hrt hg
        have hva : a.tmps.getD t undef = undef := by generalize a.tmps.getD t undef = u at hrt; cases hrt; rfl
        have hy : yielded ops a.tmps j = none := by
          simp only [yielded, ht, Option.bind_some]
          rw [Array.getD_eq_getD_getElem?] at hva
          cases h : a.tmps[t]? with
          | none => rfl
          | some u => rw [h] at hva; simp at hva; rw [hva]; rfl
        simp only [Option.some.injEq] at hg
        rw [if_neg (by simp [Region.wanted, hg', hy])]
        exact skip hg.symm rfl
      | _ => rw [het] at hg; simp at hg
    · cases h1

theorem compIs_get {nt : Nat} {ops : Array Oper} : ∀ (l : List Oper) (k : Nat) (is : List MI), compIs P nt ops k l = some is → is.length = l.length ∧ ∀ j (h : j < l.length) (h' : j < is.length), compI P nt ops (k + j) l[j] = some is[j] := by
  intro l
  induction l with
  | nil => intro k is h; simp [compIs] at h; subst h; simp
  | cons o l ih =>
    intro k is h
    simp only [compIs] at h
    split at h
    · rename_i i is' h1 h2
      simp at h; subst h
      obtain ⟨h3, h4⟩ := ih _ _ h2
      refine ⟨by simp [h3], fun j hj hj' => ?_⟩
      cases j with
      | zero => exact h1
      | succ j =>
        have := h4 j (by simpa using hj) (by simpa using hj')
        rw [show k + (j + 1) = k + 1 + j by omega]
        simpa using this
    · cases h

theorem ops_sound (hcall : ∀ f args st v st', call f args st = some (v, st') → CallOk P f args st v st') {nt : Nat} {ops : Array Oper} {base : Nat} {Q : Exit → Act → World → Prop} :
    ∀ (l : List Oper) (k : Nat) (is : List MI), compIs P nt ops k l = some is → (∀ i o, l[i]? = some o → ops[k + i]? = some o) → k + l.length = ops.size →
    ∀ (γ : Gh) (st : St) (w : World) (e : Env) (a : Act), RelS γ st w → RelE γ st w nt e a → base + ops.size ≤ st.next → (∀ j (h : j < is.length), Fresh γ st (base + (k + j)) is[j].op) →
    ∀ e' st', evIs call base is e st = some (e', st') →
    (∀ γ' w' a', Step γ st w γ' st' w' (fun id => id < base ∨ (base + ops.size ≤ id ∧ id < st.next)) → RelE γ' st' w' nt e' a' → Q .normal a' w') → wpOps P ops Q (List.range' k l.length) a w := by
  intro l
  induction l with
  | nil =>
    intro k is hc _ _ γ st w e a hS hE _ _ e' st' hev hQ
    simp [compIs] at hc; subst hc
    simp [evIs] at hev
    obtain ⟨rfl, rfl⟩ := hev
    exact hQ γ w a (Step.refl hS _) hE
  | cons o l ih =>
    intro k is hc hidx hlen γ st w e a hS hE hnext hfr e' st' hev hQ
    simp only [compIs] at hc
    split at hc
    · rename_i i is' h1 h2
      simp at hc; subst hc
      have ho : ops[k]? = some o := by simpa using hidx 0 o (by simp)
      have hks : k < ops.size := by simp at hlen; omega
      have idx' : ∀ i o', l[i]? = some o' → ops[k + 1 + i]? = some o' := fun i o' h => by
        have := hidx (i + 1) o' (by simpa using h)
        rwa [show k + (i + 1) = k + 1 + i by omega] at this
      have hlen' : k + 1 + l.length = ops.size := by simp at hlen; omega
      have hil := (compIs_get l (k + 1) is' h2).1
      have hfr0 : Fresh γ st (base + k) i.op := by have := hfr 0 (by simp); rw [Nat.add_zero] at this; exact this
      have hfr' : ∀ j (h : j < is'.length), Fresh γ st (base + (k + 1 + j)) is'[j].op := fun j h => by
        have := hfr (j + 1) (by simpa using h)
        rw [show base + (k + (j + 1)) = base + (k + 1 + j) by omega] at this
        exact this
      simp only [List.length_cons, List.range'_succ]
      rw [wpOps_cons]
      simp only [evIs] at hev
      cases hg : gv e i.guard with
      | none => rw [hg] at hev; cases hev
      | some g =>
        refine one_sound hcall h1 ho hS hE hnext hfr0 hg (fun hgf a' hE' => ?_) (fun hgt => ?_)
        · subst hgf; rw [hg] at hev
          exact ih (k + 1) is' h2 idx' hlen' γ st w _ _ hS hE' hnext hfr' e' st' hev hQ
        · subst hgt; rw [hg] at hev
          simp only [Option.bind_eq_some_iff, Prod.exists] at hev
          obtain ⟨v, e1, st1, h3, h4⟩ := hev
          refine ⟨v, e1, st1, h3, fun γ' w' a' hst hE' => ?_⟩
          refine ih (k + 1) is' h2 idx' hlen' γ' st1 w' _ _ hst.rel hE' (Nat.le_trans hnext hst.next) (fun j hj => (hfr' j hj).mono hst ⟨by omega, by omega⟩) e' st' h4 (fun γ2 w2 a2 hst2 hE2 => hQ γ2 w2 a2 ?_ hE2)
          exact hst.trans hst2 (fun id hid => ⟨by omega, by omega⟩) (fun id hid => by have := hst.next; omega)
    · cases hc
end
end Go.Ev
