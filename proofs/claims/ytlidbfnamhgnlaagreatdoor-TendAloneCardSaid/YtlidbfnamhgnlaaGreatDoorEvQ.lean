/- One operation, whichever it is (but a call): the machine does what the evaluator says. -/
import Derived.Test.YtlidbfnamhgnlaaGreatDoorEvP
namespace Go.Ev
open Go

def MOp.plain : MOp → Bool
  | .call _ _ | .callV _ _ => false
  | _ => true

section
variable {P : Program} {γ : Gh} {st : St} {w : World} {nt : Nat} {e : Env} {a : Act} {o : Oper} {call : Nat → List AV → St → Option (AV × St)} {base : Nat}

theorem map_ev {α : Type} {f : Option α} {v : AV} {e' : Env} {st' : St} {g : α → AV} (h : (f.map fun v => (g v, e, st)) = some (v, e', st')) : ∃ x, f = some x ∧ v = g x ∧ e' = e ∧ st' = st := by
  simp only [Option.map_eq_some_iff, Prod.mk.injEq] at h
  obtain ⟨x, h1, h2, h3, h4⟩ := h
  exact ⟨x, h1, h2.symm, h3.symm, h4.symm⟩

theorem plOf_rel {ops : Array Oper} (hE : RelE γ st w nt e a) : ∀ (n : Nat) (x : Operand) (pl : Pl), plOf ops n x = some pl → ∀ a', pl = .fld a' → ∃ v, RelV ⟨γ, st.gens, w⟩ (a'.ev e) v := by
  intro n
  induction n with
  | zero => intro x pl h; simp [plOf] at h
  | succ n ih =>
    intro x pl h a' ha
    cases x <;> simp only [plOf, reduceCtorEq] at h
    split at h
    · simp at h; subst h; cases ha
    · rename_i o _
      split at h
      · simp only [Option.map_eq_some_iff] at h
        obtain ⟨y, hy, rfl⟩ := h
        cases ha
        exact ⟨_, relOpd hE hy⟩
      · exact ih _ pl h a' ha
      · exact ih _ pl h a' ha
      · cases h

theorem plAddr_rel {ops : Array Oper} (hE : RelE γ st w nt e a) : ∀ (n : Nat) (x : Operand) (pl : Pl), plAddr ops n x = some pl → ∀ a', pl = .fld a' → ∃ v, RelV ⟨γ, st.gens, w⟩ (a'.ev e) v := by
  intro n
  induction n with
  | zero => intro x pl h; simp [plAddr] at h
  | succ n ih =>
    intro x pl h a' ha
    cases x <;> simp only [plAddr, reduceCtorEq] at h
    split at h
    · cases h
    · rename_i o _
      split at h
      · exact plOf_rel hE _ _ pl h a' ha
      · exact ih _ pl h a' ha
      · exact ih _ pl h a' ha
      · exact ih _ pl h a' ha
      · cases h

theorem plCut_rel {ops : Array Oper} (hE : RelE γ st w nt e a) : ∀ (n : Nat) (x : Operand) (pl : Pl), plCut ops n x = some pl → ∀ a', pl = .fld a' → ∃ v, RelV ⟨γ, st.gens, w⟩ (a'.ev e) v := by
  intro n
  induction n with
  | zero => intro x pl h; simp [plCut] at h
  | succ n ih =>
    intro x pl h a' ha
    cases x <;> simp only [plCut, reduceCtorEq] at h
    split at h
    · simp at h; subst h; cases ha
    · rename_i o _
      split at h
      · exact plOf_rel hE _ _ pl h a' ha
      · exact ih _ pl h a' ha
      · cases h

theorem relV_str {X : Ctx} {s : ByteArray} {v : Value} (h : RelV X (.str s) v) : v = .string s := by cases h; rfl
theorem relV_ptr {X : Ctx} {id off : Nat} {v : Value} (h : RelV X (.ptr id off) v) : ∃ b, X.γ.box id = some b ∧ v = .pointer (some ⟨b, off, none⟩) := by
  cases h with
  | ptr _ _ b hb => exact ⟨b, hb, rfl⟩
theorem relV_ept {X : Ctx} {c : Cap} {sz : Nat} {xs : List AV} {i off : Nat} {v : Value} (h : RelV X (.ept c sz xs i off) v) :
    ∃ a n m, RelV X (.sl c sz xs) (.slice (some a) n m) ∧ i < xs.length ∧ v = .pointer (some (a.add (i * sz + off))) := by
  cases h with
  | ept _ _ _ _ _ a n m hs hi => exact ⟨a, n, m, hs, hi, rfl⟩
theorem relV_agg {X : Ctx} {cs : List AV} {v : Value} (h : RelV X (.agg cs) v) : ∃ vs, v = .agg vs ∧ cs.length = vs.size ∧ ∀ i (h : i < cs.length), RelV X cs[i] (vs.getD i undef) := by
  cases h with
  | agg _ vs hl hr => exact ⟨vs, rfl, hl, hr⟩
theorem relV_tup {X : Ctx} {cs : List AV} {v : Value} (h : RelV X (.tup cs) v) : ∃ vs, v = .tuple vs ∧ cs.length = vs.size ∧ ∀ i (h : i < cs.length), RelV X cs[i] (vs.getD i undef) := by
  cases h with
  | tup _ vs hl hr => exact ⟨vs, rfl, hl, hr⟩
theorem relV_it {X : Ctx} {id : Nat} {v : Value} (h : RelV X (.it id) v) : ∃ b, X.γ.box id = some b ∧ v = .pointer (some ⟨b, 0, none⟩) := by
  cases h with
  | it _ b hb => exact ⟨b, hb, rfl⟩
theorem relV_ifc {X : Ctx} {t : TypeId} {x : AV} {v : Value} (h : RelV X (.ifc t x) v) : ∃ u, RelV X x u ∧ v = .iface t u := by
  cases h with
  | ifc _ _ u hu => exact ⟨u, hu, rfl⟩
theorem relV_nili {X : Ctx} {v : Value} (h : RelV X .nili v) : v = .nilIface := by cases h; rfl
theorem relV_fn {X : Ctx} {f : Nat} {cs : List AV} {v : Value} (h : RelV X (.fn f cs) v) : ∃ vs, v = .func (.func f) #[] vs ∧ cs.length = vs.size ∧ ∀ i (h : i < cs.length), RelV X cs[i] (vs.getD i undef) := by
  cases h with
  | fn _ _ vs hl hr => exact ⟨vs, rfl, hl, hr⟩

theorem run_asBool {X : Ctx} {b : Bool} {v : Value} (w : World) (h : RelV X (.bool b) v) : (asBool v).run P w = .ok b w := by cases h; rfl

/-- An iterator goes on. -/
theorem step_next (hS : RelS γ st w) {id b p q : Nat} {s : ByteArray} (hi : st.iters id = some (s, p)) (hb : γ.box id = some b) :
    Step γ st w γ { st with iters := upd st.iters id (some (s, q)) } { w with heap := w.heap.setIfInBounds b (.stringIter s q) } (fun _ => True) := by
  obtain ⟨ho, hv⟩ := hS.iter id s p b hi hb
  have hblt := (hS.inb id b hb).1
  have hoth : ∀ b', b' ≠ b → ({ w with heap := w.heap.setIfInBounds b (.stringIter s q) } : World).heap[b']? = w.heap[b']? := fun b' h => by
    show (w.heap.setIfInBounds b (.stringIter s q))[b']? = _
    rw [Array.getElem?_setIfInBounds_ne (Ne.symm h)]
  have hnew : ({ w with heap := w.heap.setIfInBounds b (.stringIter s q) } : World).heap[b]? = some (.stringIter s q) := by
    show (w.heap.setIfInBounds b (.stringIter s q))[b]? = _
    simp [hblt]
  have hsz : ({ w with heap := w.heap.setIfInBounds b (.stringIter s q) } : World).heap.size = w.heap.size := by
    show (w.heap.setIfInBounds b (.stringIter s q)).size = _
    simp
  have hl : Le ⟨γ, st.gens, w⟩ ⟨γ, st.gens, { w with heap := w.heap.setIfInBounds b (.stringIter s q) }⟩ :=
    le_change (fun b' => b' = b) (by omega) (fun b' _ h => ⟨hoth b' h, rfl⟩) (fun b' _ h => by subst h; exact ⟨by rw [ho]; simp, fun τ h => by rw [ho] at h; cases h⟩) (fun _ _ h => h) (fun _ _ _ h => h) (fun _ => Nat.le_refl _) ⟨rfl, rfl⟩
  refine ⟨hl, ?_, fun id' _ => ⟨rfl, rfl, fun h => ⟨rfl, by
    have : id' ≠ id := by rintro rfl; rw [hb] at h; cases h
    simp [upd, this]⟩⟩, Nat.le_refl _⟩
  refine ⟨?_, ?_, ?_, ?_, ?_, ?_, hS.top⟩
  · intro id' cs b' h1 h2
    obtain ⟨ho', vs, e, hv', hl', hr'⟩ := hS.box id' cs b' h1 h2
    have hne : b' ≠ b := by rintro rfl; rw [hv] at hv'; cases hv'
    exact ⟨ho', vs, e, (hoth b' hne).trans hv', hl', fun i hi => (hr' i hi).mono hl⟩
  · intro id' s' p' b' h1 h2
    by_cases hid : id' = id
    · subst hid
      rw [hb] at h2; cases h2
      simp [upd] at h1
      obtain ⟨rfl, rfl⟩ := h1
      exact ⟨ho, hnew⟩
    · simp [upd, hid] at h1
      obtain ⟨ho', hv'⟩ := hS.iter id' s' p' b' h1 h2
      have hne : b' ≠ b := by rintro rfl; rw [ho] at ho'; cases ho'; exact hid rfl
      exact ⟨ho', (hoth b' hne).trans hv'⟩
  · intro id' b' h; have := hS.inb id' b' h; rw [hsz]; exact this
  · intro τ b' base h; have := hS.inf τ b' base h; rw [hsz]; exact this
  · intro b' h; exact hS.free b' (by rw [hsz] at h; exact h)
  · intro id' h
    have := hS.new id' h
    have hid : id' ≠ id := by rintro rfl; rw [hi] at this; cases this.2
    simp [upd, hid, this]

/-- The variable that the operation makes is there before. -/
def _root_.Go.Ev.MOp.pre : MOp → Option (List AV)
  | .alloc _ z => some z
  | _ => none

/-- Nothing was made yet under this number. -/
structure Fresh (γ : Gh) (st : St) (id : Nat) (m : MOp) : Prop where
  fam : γ.fam id = none
  box : γ.box id = none
  iter : st.iters id = none
  pre : st.boxes id = m.pre

theorem upd_self {α : Type} {f : Nat → α} {i : Nat} {v : α} (h : f i = v) : upd f i v = f := by
  funext j; unfold upd; split
  · rename_i e; subst e; exact h.symm
  · rfl

set_option maxHeartbeats 1000000 in
theorem op_sound {ops : Array Oper} {k : Nat} {m : MOp} (hc : compOp P ops k o = some m) (hpl : m.plain = true) (hid : base + k < st.next) (hfr : Fresh γ st (base + k) m) (hE : RelE γ st w nt e a) (hS : RelS γ st w)
    {v : AV} {e' : Env} {st' : St} (hev : evOp call base e st m = some (v, e', st')) : OpOk P γ st w nt a (base + k) o v e' st' := by
  have hf := hfr.fam
  cases ho : o.op with
  | move x =>
    simp only [compOp, ho, Option.map_eq_some_iff] at hc
    obtain ⟨y, hy, rfl⟩ := hc
    simp [evOp] at hev; obtain ⟨rfl, rfl, rfl⟩ := hev
    exact OpOk.pure hS hE (by simp [execOp, ho]) (relOpd hE hy)
  | assign x =>
    simp only [compOp, ho, Option.map_eq_some_iff] at hc
    obtain ⟨y, hy, rfl⟩ := hc
    simp [evOp] at hev; obtain ⟨rfl, rfl, rfl⟩ := hev
    exact OpOk.pure hS hE (by simp [execOp, ho]) (relOpd hE hy)
  | pick c x y =>
    simp only [compOp, ho] at hc
    split at hc
    · rename_i c' x' y' h1 h2 h3
      simp at hc; subst hc
      simp only [evOp] at hev
      split at hev
      · rename_i b hb
        simp at hev; obtain ⟨rfl, rfl, rfl⟩ := hev
        have hcb := relOpd hE h1
        rw [hb] at hcb
        refine OpOk.pure hS hE (u := if b then a.eval x else a.eval y) (by simp [execOp, ho, run_asBool (P := P) w hcb]) ?_
        cases b
        · exact relOpd hE h3
        · exact relOpd hE h2
      · cases hev
    · cases hc
  | alloc t =>
    simp only [compOp, ho, Option.map_eq_some_iff] at hc
    obtain ⟨z, hz, rfl⟩ := hc
    simp [evOp] at hev; obtain ⟨rfl, rfl, rfl⟩ := hev
    obtain ⟨zv, hzr, hzv, _⟩ := run_zero hz w
    obtain ⟨h1, h2⟩ := cells_rel (relV_avOf ⟨γ, st.gens, w⟩ _ zv z (Nat.le_refl _) hzv)
    have hpre : st.boxes (base + k) = some z.cells := hfr.pre
    obtain ⟨γ', h3, h4⟩ := step_box hS hid hfr.box hfr.iter z.cells zv.cells t h1 h2
    rw [upd_self hpre] at h3
    exact ⟨γ', _, _, _, by simp only [execOp, ho, Instr.alloc, Sem.run_bind, hzr, Result.andThen_ok, newVar, newRow, run_newObj, Sem.run_pure]; rfl, .inl rfl, h3, hE.mono h3.le, .ptr _ _ _ h4⟩
  | box t x =>
    simp only [compOp, ho, Option.map_eq_some_iff] at hc
    obtain ⟨y, hy, rfl⟩ := hc
    simp [evOp] at hev; obtain ⟨rfl, rfl, rfl⟩ := hev
    obtain ⟨h1, h2⟩ := cells_rel (relOpd hE hy)
    obtain ⟨γ', h3, h4⟩ := step_box hS hid hfr.box hfr.iter _ _ t h1 h2
    exact ⟨γ', _, _, _, by simp only [execOp, ho, Instr.box, Sem.run_bind, Result.andThen_ok, newVar, newRow, run_newObj, Sem.run_pure]; rfl, .inl rfl, h3, hE.mono h3.le, .ptr _ _ _ h4⟩
  | build t ps =>
    simp only [compOp, ho] at hc
    split at hc
    · rename_i fs z h1 h2
      split at hc
      · rename_i hall
        simp only [Option.map_eq_some_iff] at hc
        obtain ⟨l, hl, rfl⟩ := hc
        simp only [evOp, Option.map_eq_some_iff, Prod.mk.injEq] at hev
        obtain ⟨cs, hcs, rfl, rfl, rfl⟩ := hev
        obtain ⟨u, hu, hr⟩ := sound_build h1 hall h2 hl hE hcs
        refine OpOk.pure hS hE ?_ hr
        have e1 : (ps.map fun p => (p.1, a.eval p.2)) = (ps.toList.map fun p => (p.1, a.eval p.2)).toArray := by apply Array.ext'; simp
        simp only [execOp, ho, Sem.run_bind]
        rw [show (ps.map fun x : Nat × Operand => match x with | (i, x) => (i, a.eval x)) = (ps.map fun p => (p.1, a.eval p.2)) from rfl, e1, hu]
        rfl
      · cases hc
    · cases hc
  | buildSlice t len ps =>
    simp only [compOp, ho] at hc
    split at hc
    · rename_i sz h1
      split at hc
      · rename_i hcond
        obtain ⟨hps, hbig, hzs⟩ := hcond
        simp only [Option.map_eq_some_iff] at hc
        obtain ⟨l, hl, rfl⟩ := hc
        simp only [Option.bind_eq_some_iff] at h1
        obtain ⟨el, hel, hsz⟩ := h1
        rw [hel] at hzs
        obtain ⟨z, hz⟩ := Option.isSome_iff_exists.1 hzs
        simp only [Option.bind_some] at hz
        have ht : P.underlying t = some (.slice el) := by
          simp only [elemOfSl] at hel
          split at hel
          · rename_i h; simp at hel; subst hel; exact h
          · cases hel
        simp only [evOp] at hev
        split at hev
        · rename_i hok
          simp at hev; obtain ⟨rfl, rfl, rfl⟩ := hev
          obtain ⟨γ', u, w', hr, h2, h3⟩ := sound_mkSl (P := P) hS ht hsz hz hbig hid hf hps hl hE hok
          refine ⟨γ', w', u, .value u, ?_, .inl rfl, h2, hE.mono h2.le, h3⟩
          have e1 : (ps.map fun p => (p.1, a.eval p.2)) = (ps.toList.map fun p => (p.1, a.eval p.2)).toArray := by apply Array.ext'; simp
          simp only [execOp, ho, Sem.run_bind]
          rw [show (ps.map fun x : Nat × Operand => match x with | (i, x) => (i, a.eval x)) = (ps.map fun p => (p.1, a.eval p.2)) from rfl, e1, hr]
          rfl
        · cases hev
      · cases hc
    · cases hc
  | load t x =>
    simp only [compOp, ho] at hc
    split at hc
    · rename_i ag sz y h1 h2 h3
      split at hc
      · rename_i hok
        simp at hc; subst hc
        simp only [evOp] at hev
        obtain ⟨z, hz, rfl, rfl, rfl⟩ := map_ev hev
        obtain ⟨ad, u, hva, hr, hv⟩ := sound_load (P := P) hS h1 h2 hok (relOpd hE h3) hz
        exact OpOk.pure hS hE (by simp [execOp, ho, Instr.loadAt, Instr.sureAddr, hva, hr]) hv
      · cases hc
    · cases hc
  | store t x y =>
    simp only [compOp, ho] at hc
    split at hc
    · rename_i sz x' y' h1 h2 h3
      simp at hc; subst hc
      simp only [evOp, Option.map_eq_some_iff, Prod.mk.injEq, Prod.exists] at hev
      obtain ⟨e1, st1, hst, rfl, rfl, rfl⟩ := hev
      obtain ⟨w', hr, h4, h5⟩ := sound_store (P := P) hS hE h1 (relOpd hE h2) (relOpd hE h3) (fun a' ha' => plAddr_rel hE 12 x _ ha' a' rfl) hst
      exact ⟨γ, w', undef, .skip, by simp [execOp, ho, hr], .inr ⟨rfl, rfl⟩, h4.weak (fun _ _ => trivial), h5, .junk⟩
    · cases hc
  | nilCheck x =>
    simp only [compOp, ho, Option.map_eq_some_iff] at hc
    obtain ⟨y, hy, rfl⟩ := hc
    have hr := relOpd hE hy
    simp only [evOp] at hev
    split at hev
    all_goals (try (cases hev; done))
    all_goals
      rename_i he
      simp at hev; obtain ⟨rfl, rfl, rfl⟩ := hev
      rw [he] at hr
      refine OpOk.pure hS hE (u := a.eval x) ?_ hr
      generalize hu : a.eval x = u at hr
      simp only [execOp, ho, hu]
      cases hr <;> rfl
  | binOp op t x y yt =>
    simp only [compOp, ho] at hc
    split at hc
    · rename_i x' y' h1 h2
      have hx := relOpd hE h1
      have hy := relOpd hE h2
      have fin : ∀ {z : AV}, (∃ u, (do eqGuard op t x y (a.eval x) (a.eval y); binOp op t (a.eval x) (a.eval y) : Sem Value).run P w = .ok u w ∧ RelV ⟨γ, st.gens, w⟩ z u) → OpOk P γ st w nt a (base + k) o z e st := by
        rintro z ⟨u, h3, h4⟩
        refine OpOk.pure hS hE (u := u) ?_ h4
        have h3' := h3
        simp only [execOp, ho]
        simp only [Sem.run_bind] at h3 ⊢
        rw [h3]
        rfl
      have plain : m = .bin op x' y' → OpOk P γ st w nt a (base + k) o v e' st' := by
        rintro rfl
        simp only [evOp] at hev
        obtain ⟨z, hz, rfl, rfl, rfl⟩ := map_ev hev
        exact fin (sound_bin w hx hy hz)
      have hconst : ∀ {q : Operand} {q' : Opd}, opdOf q = some q' → nilC q' = true → ∃ c, q = .const c := by
        intro q q' h hq
        cases q with
        | const c => exact ⟨c, rfl⟩
        | tmp n => simp [opdOf] at h; subst h; simp [nilC] at hq
        | func f => simp [opdOf] at h; subst h; simp [nilC] at hq
        | global g => simp [opdOf] at h
      have heq : ∀ neg : Bool, op = (if neg then .neq else .eql) → eqOfT P op neg t x' y' = some m → OpOk P γ st w nt a (base + k) o v e' st' := by
        intro neg hop hb
        simp only [eqOfT] at hb
        split at hb
        · rename_i ht
          simp at hb; subst hb
          simp only [evOp] at hev
          obtain ⟨z, hz, rfl, rfl, rfl⟩ := map_ev hev
          exact fin (hop ▸ sound_eqB w ht hx hy hz)
        · simp at hb; exact plain hb.symm
        · simp at hb; exact plain hb.symm
        · rename_i el ht
          simp at hb; subst hb
          simp only [evOp] at hev
          obtain ⟨z, hz, rfl, rfl, rfl⟩ := map_ev hev
          exact fin (hop ▸ sound_eqP w ht hx hy hz)
        · rename_i ms ht
          split at hb
          · rename_i hn
            simp at hb; subst hb
            simp only [evOp] at hev
            obtain ⟨z, hz, rfl, rfl, rfl⟩ := map_ev hev
            simp only [Bool.or_eq_true] at hn
            exact fin (hop ▸ sound_eqI w ht (hn.imp (hconst h1) (hconst h2)) hx hy hz)
          · cases hb
        · rename_i fs ht
          split at hb
          · cases hb
          · rename_i hg
            simp only [Option.map_eq_some_iff] at hb
            obtain ⟨ls, hls, rfl⟩ := hb
            simp only [evOp] at hev
            obtain ⟨z, hz, rfl, rfl, rfl⟩ := map_ev hev
            exact fin (hop ▸ sound_eqA w ht (by simpa using hg) hls hx hy hz)
        · cases hb
      cases hop : op with
      | eql => subst hop; exact heq false rfl hc
      | neq => subst hop; exact heq true rfl hc
      | _ => subst hop; simp [binOfT] at hc; exact plain hc.symm
    · cases hc
  | unOp op t x =>
    simp only [compOp, ho, Option.map_eq_some_iff] at hc
    obtain ⟨y, hy, rfl⟩ := hc
    simp only [evOp] at hev
    obtain ⟨z, hz, rfl, rfl, rfl⟩ := map_ev hev
    have hr := relOpd hE hy
    have hrun : ∀ {u : Value}, (Op.unary op (a.eval x)).run P w = .ok u w → RelV ⟨γ, st'.gens, w⟩ v u → OpOk P γ st' w nt a (base + k) o v e' st' := fun h1 h2 =>
      OpOk.pure hS hE (by simp [execOp, ho, h1]) h2
    cases hy' : y.ev e' with
    | bool b =>
      rw [hy'] at hz hr
      cases op <;> simp [evUn] at hz
      subst hz
      have := relV_bool hr
      exact hrun (u := .bool !b) (by rw [this]; rfl) (.bool _)
    | int kk n =>
      rw [hy'] at hz hr
      have := relV_int hr
      cases op <;> simp [evUn] at hz
      · subst hz; exact hrun (u := .int kk (kk.wrap (0 - n))) (by rw [this]; rfl) (by simpa using RelV.int _ _)
      · subst hz; exact hrun (by rw [this]; rfl) (.int _ _)
    | _ => rw [hy'] at hz; simp [evUn] at hz
  | convert s d x =>
    simp only [compOp, ho] at hc
    split at hc
    · rename_i k1 k2 x' h1 h2 h3
      simp at hc; subst hc
      simp only [evOp] at hev
      split at hev
      · rename_i kk n hx'
        simp at hev; obtain ⟨rfl, rfl, rfl⟩ := hev
        have hr := relOpd hE h3
        rw [hx'] at hr
        have := relV_int hr
        exact OpOk.pure hS hE (u := .int k2 (k2.wrap n)) (by simp [execOp, ho, this, convert, run_und h1, run_und h2, Conv.intToInt]) (.int _ _)
      · cases hev
    · rename_i x' h1 h2 h3
      simp at hc; subst hc
      simp only [evOp] at hev
      split at hev
      · rename_i s' hs'
        simp at hev; obtain ⟨rfl, rfl, rfl⟩ := hev
        have hr := relOpd hE h3
        rw [hs'] at hr
        have hva := relV_str hr
        exact OpOk.pure hS hE (u := .string s') (by simp [execOp, ho, hva, convert, run_und h1, run_und h2]) (.str _)
      · cases hev
    · rename_i el x' h1 h2 h3
      split at hc
      · rename_i h4
        simp at hc; subst hc
        simp only [evOp] at hev
        split at hev
        · rename_i s' hs'
          split at hev
          · simp at hev; obtain ⟨rfl, rfl, rfl⟩ := hev
            have hr := relOpd hE h3
            rw [hs'] at hr
            have hstr := relV_str hr
            obtain ⟨γ', u, w', k1, k2, k3⟩ := sound_convS (P := P) hS h2 h1 h4 hid hf s'
            exact ⟨γ', w', u, .value u, by simp [execOp, ho, hstr, k1], .inl rfl, k2, hE.mono k2.le, k3⟩
          · cases hev
        · cases hev
      · cases hc
    · rename_i el x' h1 h2 h3
      split at hc
      · rename_i h4
        simp at hc; subst hc
        simp only [evOp] at hev
        split at hev
        · rename_i c s' xs hs'
          split at hev
          · rename_i hcond
            obtain ⟨l, hl, rfl, rfl, rfl⟩ := map_ev hev
            have hr := relOpd hE h3
            rw [hs'] at hr
            exact OpOk.pure hS hE (u := .string ⟨l.toArray⟩) (by simp [execOp, ho]; rw [sound_convB (X := ⟨γ, st'.gens, w⟩) h1 h4 h2 hr hcond.1 hl]; rfl) (.str _)
          · cases hev
        · cases hev
      · cases hc
    · cases hc
  | makeInterface t x =>
    simp only [compOp, ho] at hc
    split at hc
    · cases hc
    · rename_i d hd hne
      simp only [Option.map_eq_some_iff] at hc
      obtain ⟨y, hy, rfl⟩ := hc
      simp [evOp] at hev; obtain ⟨rfl, rfl, rfl⟩ := hev
      refine OpOk.pure hS hE (u := .iface t (a.eval x)) ?_ (.ifc _ _ _ (relOpd hE hy))
      simp only [execOp, ho, Sem.run_bind, Instr.makeInterface, run_und hne, Result.andThen_ok]
      cases d <;> first | rfl | (exact absurd hne (by intro h; exact hd _ h))
    · cases hc
  | makeFunc fn first cs =>
    cases fn with
    | func f =>
      simp only [compOp, ho] at hc
      split at hc
      · rename_i hemp
        simp only [Option.map_eq_some_iff] at hc
        obtain ⟨l, hl, rfl⟩ := hc
        simp [evOp] at hev; obtain ⟨rfl, rfl, rfl⟩ := hev
        have hall := relOpds hE hl
        have hfe : first = #[] := by simpa using hemp
        refine OpOk.pure hS hE (u := .func (.func f) #[] (cs.map a.eval)) (by simp [execOp, ho, Instr.makeFunc, hfe]) (.fn _ _ _ (by have := hall.length; simpa using this) (fun i hi => ?_))
        have h1 := hall.get i hi (by have := hall.length; omega)
        have h2 : (cs.map a.eval).getD i undef = ((cs.toList.map a.eval)[i]'(by have := hall.length; omega)) := by
          have hlen := hall.length
          simp at hlen hi
          simp [Array.getD_eq_getD_getElem?, show i < cs.size by omega]
        rw [h2]; exact h1
      · cases hc
    | _ => simp [compOp, ho] at hc
  | slice t x lo hi mx =>
    simp only [compOp, ho] at hc
    split at hc
    · rename_i x' lo' hi' h1 h2 h3 h4 h5
      simp at hc; subst hc
      simp only [evOp] at hev
      obtain ⟨z, hz, rfl, rfl, rfl⟩ := map_ev hev
      obtain ⟨u, hu, hr⟩ := sound_sliceS (P := P) w h1 (relOpd hE h2) (relOpdO hE h3).1 (relOpdO hE h4).1 hz
      have hmx : mx = none := by have := (relOpdO hE h5).2; simpa using this
      subst hmx
      exact OpOk.pure hS hE (by simp [execOp, ho, hu]) hr
    · rename_i el x' lo' hi' mx' h1 h2 h3 h4 h5
      simp only [Option.bind_eq_some_iff] at hc
      obtain ⟨sz, hsz, hc⟩ := hc
      split at hc
      · cases hc
      · rename_i hmh
        simp at hc; subst hc
        simp only [evOp] at hev
        obtain ⟨z, hz, rfl, rfl, rfl⟩ := map_ev hev
        obtain ⟨u, hu, hr⟩ := sound_slice (P := P) w h1 hsz (X := ⟨γ, st'.gens, w⟩) rfl (by rw [show _ = _ from hS.top]; exact hid) (relOpd hE h2) (relOpdO hE h3).1 (relOpdO hE h4).1 (relOpdO hE h5).1 (by
          intro hm
          cases hi' with
          | none => simp at hmh hm; rw [hmh] at hm; simp at hm
          | some _ => rfl) hz
        exact OpOk.pure hS hE (by simp [execOp, ho, hu]) hr
    · cases hc
  | fieldAddr t x f =>
    simp only [compOp, ho] at hc
    split at hc
    · rename_i fs x' h1 h2
      split at hc
      · rename_i fd h3
        split at hc
        · rename_i s h4
          split at hc
          · cases hc
          · rename_i h0
            simp at hc; subst hc
            simp only [evOp] at hev
            obtain ⟨z, hz, rfl, rfl, rfl⟩ := map_ev hev
            have hr := relOpd hE h2
            have hrun : ∀ ad : Addr, a.eval x = .pointer (some ad) → (execOp a.eval o).run P w = .ok (.value (.pointer (some (ad.add fd.offset)))) w := by
              intro ad had
              simp [execOp, ho, had, Instr.fieldAt, run_und h1, h3, Instr.sureAddr, fieldPlace, run_sizeOf h4, h0]
            cases hx' : x'.ev e' with
            | ptr id' off =>
              rw [hx'] at hz hr
              simp [evFadr] at hz; subst hz
              obtain ⟨b, hb, hva⟩ := relV_ptr hr
              exact OpOk.pure hS hE (by rw [hrun _ hva, add_at]) (.ptr _ _ _ hb)
            | ept c s' xs i off =>
              rw [hx'] at hz hr
              simp [evFadr] at hz; subst hz
              obtain ⟨ad, n, m', hs', hi, hva⟩ := relV_ept hr
              obtain ⟨b, off', had⟩ := (sl_len hs').choose_spec.choose_spec.2.2 (by rintro rfl; simp at hi)
              have hva' := hrun _ hva
              have := RelV.ept c s' xs i (off + fd.offset) ad n m' hs' hi
              refine OpOk.pure hS hE hva' ?_
              obtain ⟨a2, m2, e2, _, h6⟩ := sl_len hs'
              obtain ⟨b2, o2, h7⟩ := h6 (by rintro rfl; simp at hi)
              cases e2; cases h7
              rw [add_at, add_at]
              rw [add_at] at this
              rwa [show o2 + (i * s' + (off + fd.offset)) = o2 + (i * s' + off) + fd.offset by omega] at this
            | _ => rw [hx'] at hz; simp [evFadr] at hz
        · cases hc
      · cases hc
    · cases hc
  | field t x f =>
    simp only [compOp, ho] at hc
    split at hc
    · rename_i fs x' h1 h2
      split at hc
      · rename_i fd h3
        split at hc
        · rename_i ag s h4 h5
          split at hc
          · rename_i hok
            simp at hc; subst hc
            simp only [evOp] at hev
            split at hev
            · rename_i cs hcs
              obtain ⟨z, hz, rfl, rfl, rfl⟩ := map_ev hev
              have hr := relOpd hE h2
              rw [hcs] at hr
              obtain ⟨vs, hva, hl, hrr⟩ := relV_agg hr
              have hgr := getR_rel (f := fun i => vs.getD i undef) hrr hok hz
              obtain ⟨u, hu, hval⟩ := run_part h4 h5 w hl hrr (off := fd.offset) hgr.1 (by simpa using hok)
              have hrun : (execOp a.eval o).run P w = .ok (.value u) w := by
                simp [execOp, ho, hva, Instr.field, run_und h1, h3, asAgg, hu]
              refine OpOk.pure hS hE hrun ?_
              simp only [getR] at hz
              cases ag with
              | true =>
                simp only [if_true] at hz
                rw [if_pos hgr.1] at hz
                simp at hz; subst hz
                simp only [ValOf, h4] at hval
                obtain ⟨arr, rfl, h6, h7⟩ := hval
                exact .agg _ arr h6 h7
              | false =>
                simp only [Bool.false_eq_true, if_false] at hz
                simp only [ValOf, h4] at hval
                obtain ⟨x1, h6, h7⟩ := hval
                have h8 : s = 1 := by simpa using hok
                subst h8
                have h9 : x1 = v := by
                  have := congrArg (·[0]?) h6
                  simp [hz] at this
                  exact this.symm
                subst h9
                exact h7
            · cases hev
          · cases hc
        · cases hc
      · cases hc
    · cases hc
  | indexAddr t x i =>
    simp only [compOp, ho] at hc
    split at hc
    · rename_i sz x' i' h1 h2 h3
      simp at hc; subst hc
      simp only [evOp] at hev
      obtain ⟨z, hz, rfl, rfl, rfl⟩ := map_ev hev
      simp only [Option.bind_eq_some_iff] at h1
      obtain ⟨el, hel, hsz⟩ := h1
      have ht : P.underlying t = some (.slice el) := by
        simp only [elemOfSl] at hel
        split at hel
        · rename_i h; simp at hel; subst hel; exact h
        · cases hel
      have hrx := relOpd hE h2
      have hri := relOpd hE h3
      cases hx' : x'.ev e' with
      | sl c s xs =>
        rw [hx'] at hz hrx
        cases hi' : i'.ev e' with
        | int kk n =>
          rw [hi'] at hz hri
          simp only [evIadr] at hz
          split at hz
          · rename_i hcond
            obtain ⟨h0, hn, hss⟩ := hcond
            subst hss
            simp at hz; subst hz
            obtain ⟨a2, m2, hva, _, h6⟩ := sl_len hrx
            have hvi := relV_int hri
            obtain ⟨b2, o2, h7⟩ := h6 (by rintro rfl; simp at hn; omega)
            subst h7
            rw [hva] at hrx
            refine OpOk.pure hS hE (u := .pointer (some ((⟨b2, o2, none⟩ : Addr).add (n.toNat * s)))) ?_ ?_
            · have hlt : 0 ≤ n ∧ n < (xs.length : Int) := ⟨h0, hn⟩
              simp [execOp, ho, hva, hvi, Instr.indexAt, asIntOf, run_und ht, h0, hn, run_sizeOf hsz]
            · have := RelV.ept c s xs n.toNat 0 _ _ _ hrx (by omega)
              simpa using this
          · cases hz
        | _ => rw [hi'] at hz; simp [evIadr] at hz
      | _ => rw [hx'] at hz; simp [evIadr] at hz
    · cases hc
  | index t x i =>
    simp only [compOp, ho] at hc
    split at hc
    · rename_i x' i' h1 h2 h3
      simp at hc; subst hc
      simp only [evOp] at hev
      obtain ⟨z, hz, rfl, rfl, rfl⟩ := map_ev hev
      have hrx := relOpd hE h2
      have hri := relOpd hE h3
      cases hx' : x'.ev e' with
      | str s =>
        rw [hx'] at hz hrx
        cases hi' : i'.ev e' with
        | int kk n =>
          rw [hi'] at hz hri
          simp only [evIdx] at hz
          split at hz
          · rename_i h0
            simp only [Option.map_eq_some_iff] at hz
            obtain ⟨b, hb, rfl⟩ := hz
            have hva := relV_str hrx
            have hvi := relV_int hri
            have hsb : s[n.toNat]? = some b := by
              have : n.toNat < s.size := by
                obtain ⟨h, _⟩ := List.getElem?_eq_some_iff.1 hb
                simpa using h
              rw [getElem?_pos s n.toNat this]
              obtain ⟨h, h'⟩ := List.getElem?_eq_some_iff.1 hb
              rw [← h']
              simp
              rfl
            exact OpOk.pure hS hE (u := .int .u8 b.toNat) (by simp [execOp, ho, hva, hvi, Instr.index, asIntOf, run_und h1, h0, hsb]) (.int _ _)
          · cases hz
        | _ => rw [hi'] at hz; simp [evIdx] at hz
      | _ => rw [hx'] at hz; simp [evIdx] at hz
    · cases hc
  | range t x =>
    simp only [compOp, ho] at hc
    split at hc
    · rename_i x' h1 h2
      simp at hc; subst hc
      simp only [evOp] at hev
      split at hev
      · rename_i s hs
        simp at hev; obtain ⟨rfl, rfl, rfl⟩ := hev
        have hr := relOpd hE h2
        rw [hs] at hr
        have hva := relV_str hr
        obtain ⟨γ', h3, h4⟩ := step_iter hS hid hfr.box hfr.pre s
        exact ⟨γ', _, _, _, by simp only [execOp, ho, hva, Instr.range, Sem.run_bind, run_und h1, Result.andThen_ok, Sem.run_pure, run_newObj]; rfl, .inl rfl, h3, hE.mono h3.le, .it _ _ h4⟩
      · cases hev
    · cases hc
  | next x b =>
    cases b with
    | false => simp [compOp, ho] at hc
    | true =>
      simp only [compOp, ho, Option.map_eq_some_iff] at hc
      obtain ⟨y, hy, rfl⟩ := hc
      simp only [evOp, Option.map_eq_some_iff, Prod.mk.injEq, Prod.exists] at hev
      obtain ⟨v1, st1, hn, rfl, rfl, rfl⟩ := hev
      have hr := relOpd hE hy
      cases hy' : y.ev e with
      | it id' =>
        rw [hy'] at hn hr
        obtain ⟨b, hb, hva⟩ := relV_it hr
        simp only [evNext] at hn
        split at hn
        · rename_i s p hi
          obtain ⟨_, hv⟩ := hS.iter id' s p b hi hb
          have hget : (getObj b).run P w = .ok (.stringIter s p) w := by
            simp only [getObj, Sem.run, hv]
          split at hn
          · rename_i hlt
            simp at hn
            obtain ⟨rfl, rfl⟩ := hn
            have hstep := step_next (q := p + (Utf8.decode s p).2) hS hi hb
            have hset : (setObj b (.stringIter s (p + (Utf8.decode s p).2))).run P w = .ok () { w with heap := w.heap.setIfInBounds b (.stringIter s (p + (Utf8.decode s p).2)) } := by
              simp only [setObj, Sem.run, hv]
            refine ⟨γ, _, .tuple #[.bool true, goInt p, .int .i32 (Utf8.decode s p).1], _, ?_, .inl rfl, hstep.weak (fun _ _ => trivial), hE.mono hstep.le, ?_⟩
            · simp only [execOp, ho, hva, Instr.next, Sem.run_bind, hget, Result.andThen_ok, if_pos hlt, hset, Sem.run_pure]
            · refine .tup _ _ rfl (fun i hi => ?_)
              match i, hi with
              | 0, _ => exact .bool _
              | 1, _ => exact .int _ _
              | 2, _ => exact .int _ _
          · rename_i hge
            simp at hn
            obtain ⟨rfl, rfl⟩ := hn
            refine OpOk.pure hS hE (u := .tuple #[.bool false]) ?_ ?_
            · simp only [execOp, ho, hva, Instr.next, Sem.run_bind, hget, Result.andThen_ok, if_neg hge, Sem.run_pure]
            · refine .tup _ _ rfl (fun i hi => ?_)
              match i, hi with
              | 0, _ => exact .bool _
        · cases hn
      | _ => rw [hy'] at hn; simp [evNext] at hn
  | typeAssert x s t ok =>
    simp only [compOp, ho] at hc
    split at hc
    · cases hc
    · rename_i d z y hd hne h2 h3
      simp at hc; subst hc
      simp only [evOp] at hev
      obtain ⟨v1, hz, rfl, rfl, rfl⟩ := map_ev hev
      have hr := relOpd hE h3
      obtain ⟨zv, hzr, hzv, _⟩ := run_zero h2 w
      have hzrel := relV_avOf ⟨γ, st'.gens, w⟩ _ zv z (Nat.le_refl _) hzv
      have htup : ∀ {p : AV} {q : Value} {b : Bool}, RelV ⟨γ, st'.gens, w⟩ p q → RelV ⟨γ, st'.gens, w⟩ (.tup [p, .bool b]) (.tuple #[q, .bool b]) := fun {p q b} h => by
        refine .tup _ _ rfl (fun i hi => ?_)
        match i, hi with
        | 0, _ => exact h
        | 1, _ => exact .bool _
      have hnotI : ∀ ms, d ≠ .interface ms := fun ms h => hd ms h
      cases hy' : y.ev e' with
      | ifc t' x' =>
        rw [hy'] at hz hr
        obtain ⟨u, hu, hva⟩ := relV_ifc hr
        simp only [evAssert] at hz
        split at hz
        · rename_i htt
          subst htt
          simp at hz; subst hz
          refine OpOk.pure hS hE (u := if ok then .tuple #[u, .bool true] else u) ?_ ?_
          · simp only [execOp, ho, hva, Instr.typeAssert, Sem.run_bind, run_und hne, Result.andThen_ok]
            cases d <;> first | (exact absurd rfl (hnotI _)) | (cases ok <;> simp)
          · cases ok
            · exact hu
            · exact htup hu
        · rename_i htt
          split at hz
          · rename_i hok
            simp at hz; subst hz
            refine OpOk.pure hS hE (u := .tuple #[zv, .bool false]) ?_ (htup hzrel)
            simp only [execOp, ho, hva, Instr.typeAssert, Sem.run_bind, run_und hne, Result.andThen_ok]
            cases d <;> first | (exact absurd rfl (hnotI _)) | simp [htt, hok, hzr]
          · cases hz
      | nili =>
        rw [hy'] at hz hr
        have hva := relV_nili hr
        simp only [evAssert] at hz
        split at hz
        · rename_i hok
          simp at hz; subst hz
          refine OpOk.pure hS hE (u := .tuple #[zv, .bool false]) ?_ (htup hzrel)
          simp only [execOp, ho, hva, Instr.typeAssert, Sem.run_bind, run_und hne, Result.andThen_ok]
          cases d <;> first | (exact absurd rfl (hnotI _)) | simp [hok, hzr]
        · cases hz
      | _ => rw [hy'] at hz; simp [evAssert] at hz
    · cases hc
  | extract x i =>
    simp only [compOp, ho, Option.map_eq_some_iff] at hc
    obtain ⟨y, hy, rfl⟩ := hc
    simp only [evOp] at hev
    split at hev
    · rename_i vs hvs
      obtain ⟨z, hz, rfl, rfl, rfl⟩ := map_ev hev
      have hr := relOpd hE hy
      rw [hvs] at hr
      obtain ⟨us, hva, hl, hrr⟩ := relV_tup hr
      obtain ⟨h1, h2⟩ := List.getElem?_eq_some_iff.1 hz
      have h3 := hrr i h1
      rw [h2] at h3
      have h4 : us[i]? = some (us.getD i undef) := by simp [Array.getD_eq_getD_getElem?, show i < us.size by omega]
      exact OpOk.pure hS hE (by simp only [execOp, ho, hva, Instr.extract, h4]; rfl) h3
    · cases hev
  | call c =>
    have hres : ∀ b, c.callee = .builtin b → ∃ cs, (execOp a.eval o).run P w = (builtin b c.argTypes o.type cs (c.args.map a.eval)).run P w := by
      intro b hb
      simp only [execOp, ho, resolve, hb, Sem.run_bind, Sem.run_pure, Result.andThen_ok, invoke]
      exact ⟨_, rfl⟩
    simp only [compOp, ho] at hc
    split at hc
    · simp only [Option.map_eq_some_iff] at hc
      obtain ⟨l, _, rfl⟩ := hc
      cases hpl
    · split at hc
      · simp at hc; subst hc; cases hpl
      · cases hc
    · rename_i hcal
      split at hc
      · rename_i t x h1 h2
        have hargs : c.args.map a.eval = #[a.eval x] := by apply Array.ext'; simp [h2]
        split at hc
        · rename_i hty
          simp only [Option.map_eq_some_iff] at hc
          obtain ⟨y, hy, rfl⟩ := hc
          simp only [evOp] at hev
          obtain ⟨z, hz, rfl, rfl, rfl⟩ := map_ev hev
          have hr := relOpd hE hy
          cases hy' : y.ev e' with
          | str s =>
            rw [hy'] at hz hr
            simp [evLen] at hz; subst hz
            have hva := relV_str hr
            refine OpOk.pure hS hE (u := goInt s.size) ?_ (.int _ _)
            obtain ⟨cs, hcs⟩ := hres _ hcal
            rw [hcs, hargs, hva]
            simp [builtin, Builtin.len_, h1, run_und hty]
          | _ => rw [hy'] at hz; simp [evLen] at hz
        · rename_i el hty
          simp only [Option.map_eq_some_iff] at hc
          obtain ⟨y, hy, rfl⟩ := hc
          simp only [evOp] at hev
          obtain ⟨z, hz, rfl, rfl, rfl⟩ := map_ev hev
          have hr := relOpd hE hy
          cases hy' : y.ev e' with
          | sl cc s xs =>
            rw [hy'] at hz hr
            simp [evLen] at hz; subst hz
            obtain ⟨a2, m2, hva, _, _⟩ := sl_len hr
            refine OpOk.pure hS hE (u := goInt xs.length) ?_ (.int _ _)
            obtain ⟨cs, hcs⟩ := hres _ hcal
            rw [hcs, hargs, hva]
            simp [builtin, Builtin.len_, h1, run_und hty]
          | _ => rw [hy'] at hz; simp [evLen] at hz
        · cases hc
      · cases hc
    · rename_i hcal
      split at hc
      · rename_i t t' x y h1 h2 h3
        have hargs : c.args.map a.eval = #[a.eval x, a.eval y] := by apply Array.ext'; simp [h3]
        have htys : c.argTypes[0]? = some t ∧ c.argTypes[1]? = some t' := ⟨h1, h2⟩
        have go : ∀ el x' y', elemOfSl P t = some el → ((∃ e', P.underlying t' = some (.slice e')) ∨ P.underlying t' = some .string) → opdOf x = some x' → opdOf y = some y' →
            (match szOf P el, limOf P el, zeroOf P el with
            | some sz, some lim, some z => if 0 < sz ∧ z.cells.length = sz then some (MOp.append k sz lim x' y') else none
            | _, _, _ => none) = some m → OpOk P γ st w nt a (base + k) o v e' st' := by
          intro el x' y' hel ht' hx hy hm
          split at hm
          · rename_i sz lim z h4 h5 h6
            split at hm
            · rename_i hcond
              obtain ⟨hpos, hzl⟩ := hcond
              simp at hm; subst hm
              have ht : P.underlying t = some (.slice el) := by
                simp only [elemOfSl] at hel
                split at hel
                · rename_i h; simp at hel; subst hel; exact h
                · cases hel
              obtain ⟨zv, hzr, hzv, inf, hinf, hiz⟩ := run_zero h6 w
              obtain ⟨hcl, _⟩ := cells_rel (relV_avOf ⟨γ, st.gens, w⟩ _ zv z (Nat.le_refl _) hzv)
              have hisz : inf.size = sz := by simp [szOf, hinf] at h4; exact h4
              have hlim : lim = 140737488355328 / max inf.bytes 1 := by simp [limOf, hinf] at h5; exact h5.symm
              simp only [evOp] at hev
              split at hev
              · rename_i cc s xs hxs
                simp only [Option.bind_eq_some_iff] at hev
                obtain ⟨ys, hys, hev⟩ := hev
                split at hev
                · rename_i hok
                  obtain ⟨ho1, ho2, ho3⟩ := hok
                  simp at hev; obtain ⟨rfl, rfl, rfl⟩ := hev
                  have hrx := relOpd hE hx
                  rw [hxs] at hrx
                  obtain ⟨γ', u, w', k1, k2, k3⟩ := sound_append (P := P) hS (ty := o.type) ht ht' hinf hiz hisz (by omega) hpos hid hf hrx (relOpd hE hy) hys ho1 ho2 (by rw [← hlim]; exact ho3)
                  refine ⟨γ', w', u, .value u, ?_, .inl rfl, k2, hE.mono k2.le, k3⟩
                  obtain ⟨cs, hcs⟩ := hres _ hcal
                  rw [hcs, hargs]
                  have hat : Builtin.append_ c.argTypes o.type #[a.eval x, a.eval y] = Builtin.append_ #[t, t'] o.type #[a.eval x, a.eval y] := by
                    simp only [Builtin.append_, htys.1, htys.2]
                    rfl
                  simp only [builtin, Sem.run_bind, hat, k1]
                  rfl
                · cases hev
              · cases hev
            · cases hm
          · cases hm
        split at hc
        · rename_i el e'' x' y' h4 h5 h6 h7
          exact go el x' y' h4 (.inl ⟨e'', h5⟩) h6 h7 hc
        · rename_i el x' y' h4 h5 h6 h7
          exact go el x' y' h4 (.inr h5) h6 h7 hc
        · cases hc
      · cases hc
    · rename_i hcal
      simp only [Option.map_eq_some_iff] at hc
      obtain ⟨l, hl, rfl⟩ := hc
      simp only [evOp] at hev
      obtain ⟨z, hz, rfl, rfl, rfl⟩ := map_ev hev
      have hall := relOpds hE hl
      generalize hL : (l.map fun p => p.ev e') = L at hall hz
      generalize hV : c.args.toList.map a.eval = V at hall
      cases hall with
      | nil => simp [evMnmx] at hz
      | @cons x v0 xs vs hx hxs =>
        simp only [evMnmx] at hz
        obtain ⟨u, hu, hr⟩ := run_mnmx (P := P) (w := w) ⟨γ, st'.gens, w⟩ false hxs hx hz
        refine OpOk.pure hS hE (u := u) ?_ hr
        obtain ⟨cs, hcs⟩ := hres _ hcal
        rw [hcs]
        have hargs : (c.args.map a.eval).toList = v0 :: vs := by simpa using hV
        simp only [builtin, Sem.run_bind, Builtin.min_, hargs]
        simp only [Bool.false_eq_true, if_false] at hu
        rw [hu]; rfl
    · rename_i hcal
      simp only [Option.map_eq_some_iff] at hc
      obtain ⟨l, hl, rfl⟩ := hc
      simp only [evOp] at hev
      obtain ⟨z, hz, rfl, rfl, rfl⟩ := map_ev hev
      have hall := relOpds hE hl
      generalize hL : (l.map fun p => p.ev e') = L at hall hz
      generalize hV : c.args.toList.map a.eval = V at hall
      cases hall with
      | nil => simp [evMnmx] at hz
      | @cons x v0 xs vs hx hxs =>
        simp only [evMnmx] at hz
        obtain ⟨u, hu, hr⟩ := run_mnmx (P := P) (w := w) ⟨γ, st'.gens, w⟩ true hxs hx hz
        refine OpOk.pure hS hE (u := u) ?_ hr
        obtain ⟨cs, hcs⟩ := hres _ hcal
        rw [hcs]
        have hargs : (c.args.map a.eval).toList = v0 :: vs := by simpa using hV
        simp only [builtin, Sem.run_bind, Builtin.max_, hargs]
        simp only [if_true] at hu
        rw [hu]; rfl
    · rename_i hcal
      split at hc
      · rename_i t x h1 h2
        have hargs : c.args.map a.eval = #[a.eval x] := by apply Array.ext'; simp [h2]
        split at hc
        · rename_i el x' pl h3 h4 h5
          split at hc
          · rename_i sz z h6 h7
            split at hc
            · rename_i hcond
              obtain ⟨hpos, hzl, hzo⟩ := hcond
              simp at hc; subst hc
              have ht : P.underlying t = some (.slice el) := by
                simp only [elemOfSl] at h3
                split at h3
                · rename_i h; simp at h3; subst h3; exact h
                · cases h3
              obtain ⟨zv, hzr, hzv, inf, hinf, hiz⟩ := run_zero h7 w
              simp only [evOp, Option.map_eq_some_iff, Prod.mk.injEq, Prod.exists] at hev
              obtain ⟨e1, st1, hst, rfl, rfl, rfl⟩ := hev
              obtain ⟨w', k1, k2, k3⟩ := sound_clear (P := P) (ty := o.type) hS hE ht hinf hiz hzv hzl hzo (relOpd hE h4) (fun a' ha' => plCut_rel hE 12 x _ h5 a' ha') hst
              refine ⟨γ, w', undef, .value undef, ?_, .inl rfl, k2.weak (fun _ _ => trivial), k3, .junk⟩
              obtain ⟨cs, hcs⟩ := hres _ hcal
              rw [hcs, hargs]
              have hat : Builtin.clear_ c.argTypes o.type #[a.eval x] = Builtin.clear_ #[t] o.type #[a.eval x] := by
                simp only [Builtin.clear_, h1]
                rfl
              simp only [builtin, Sem.run_bind, hat, k1]
              rfl
            · cases hc
          · cases hc
        · cases hc
      · cases hc
    · cases hc
  | _ => simp [compOp, ho] at hc
end
end Go.Ev
