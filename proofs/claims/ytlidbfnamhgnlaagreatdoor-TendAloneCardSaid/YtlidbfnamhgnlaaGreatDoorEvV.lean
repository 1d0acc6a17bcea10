/- Code and functions: what the evaluator answers, the machine does. -/
import Derived.Test.YtlidbfnamhgnlaaGreatDoorEvU
namespace Go.Ev
open Go

theorem hoist_spec (base : Nat) : ∀ (is : List MI) (c : Nat) (st : St), (∀ j (h : j < is.length) k z, is[j].op = .alloc k z → k = c + j) →
    (hoist base is st).next = st.next ∧ (hoist base is st).iters = st.iters ∧ (hoist base is st).gens = st.gens ∧
    (∀ id, (∀ j, j < is.length → id ≠ base + (c + j)) → (hoist base is st).boxes id = st.boxes id) ∧
    ∀ j (h : j < is.length), st.boxes (base + (c + j)) = none → (hoist base is st).boxes (base + (c + j)) = is[j].op.pre := by
  intro is
  induction is with
  | nil => intro c st _; exact ⟨rfl, rfl, rfl, fun _ _ => rfl, fun j h => by simp at h⟩
  | cons i is ih =>
    intro c st hk
    have hk' : ∀ j (h : j < is.length) k z, is[j].op = .alloc k z → k = c + 1 + j := fun j h k z ha => by
      have := hk (j + 1) (by simpa using h) k z ha
      omega
    have hk0 := hk 0 (by simp)
    have go : ∀ st1 : St, hoist base (i :: is) st = hoist base is st1 → st1.next = st.next → st1.iters = st.iters → st1.gens = st.gens → (∀ id, id ≠ base + c → st1.boxes id = st.boxes id) → (st.boxes (base + c) = none → st1.boxes (base + c) = i.op.pre) →
        (hoist base (i :: is) st).next = st.next ∧ (hoist base (i :: is) st).iters = st.iters ∧ (hoist base (i :: is) st).gens = st.gens ∧
        (∀ id, (∀ j, j < (i :: is).length → id ≠ base + (c + j)) → (hoist base (i :: is) st).boxes id = st.boxes id) ∧
        ∀ j (h : j < (i :: is).length), st.boxes (base + (c + j)) = none → (hoist base (i :: is) st).boxes (base + (c + j)) = (i :: is)[j].op.pre := fun st1 h0 h1 h2 h3 h4 h5 => by
      obtain ⟨g1, g2, g3, g4, g5⟩ := ih (c + 1) st1 hk'
      rw [h0]
      refine ⟨g1.trans h1, g2.trans h2, g3.trans h3, fun id hid => ?_, fun j hj hn => ?_⟩
      · rw [g4 id (fun j hj => by have := hid (j + 1) (by simpa using hj); omega), h4 id (by have := hid 0 (by simp); omega)]
      · cases j with
        | zero =>
          rw [Nat.add_zero] at hn ⊢
          rw [g4 _ (fun j _ => by omega)]
          exact h5 hn
        | succ j =>
          have h6 := g5 j (by simpa using hj)
          rw [show base + (c + 1 + j) = base + (c + (j + 1)) by omega] at h6
          exact h6 (by rw [h4 _ (by omega)]; exact hn)
    obtain ⟨d, g, op, b, f⟩ := i
    cases op with
    | alloc k z =>
      have : k = c := by simpa using hk0 k z rfl
      subst this
      exact go { st with boxes := upd st.boxes (base + k) (some z) } rfl rfl rfl rfl (fun id h => by simp [upd, h]) (fun _ => by simp [upd, MOp.pre])
    | _ => exact go st rfl rfl rfl rfl (fun _ _ => rfl) (fun h => by simpa [MOp.pre] using h)

theorem comp_alloc {P : Program} {ops : Array Oper} {k : Nat} {o : Oper} {m : MOp} (h : compOp P ops k o = some m) {k' : Nat} {z : List AV} (hm : m = .alloc k' z) : k' = k := by
  subst hm
  cases ho : o.op with
  | alloc t => simp only [compOp, ho, Option.map_eq_some_iff, MOp.alloc.injEq] at h; obtain ⟨_, _, h, _⟩ := h; exact h.symm
  | next x is => cases is <;> simp [compOp, ho] at h
  | makeFunc c first cs =>
    cases c with
    | func f => simp only [compOp, ho] at h; split at h <;> simp at h
    | _ => simp [compOp, ho] at h
  | slice t x lo hi mx =>
    simp only [compOp, ho] at h
    split at h
    · simp at h
    · simp only [Option.bind_eq_some_iff] at h
      obtain ⟨_, _, h⟩ := h
      split at h <;> simp at h
    · cases h
  | binOp op t x y yt =>
    simp only [compOp, ho] at h
    split at h
    · cases op <;> simp only [binOfT, eqOfT] at h <;> (repeat' split at h) <;> simp at h
    · cases h
  | _ => simp only [compOp, ho] at h <;> (repeat' split at h) <;> first | (cases h; done) | (simp at h; done)

theorem compI_op {P : Program} {nt : Nat} {ops : Array Oper} {k : Nat} {o : Oper} {m : MI} (h : compI P nt ops k o = some m) : compOp P ops k o = some m.op := by
  simp only [compI] at h
  split at h
  · split at h
    · simp only [Option.map_eq_some_iff] at h; obtain ⟨_, h1, rfl⟩ := h; exact h1
    · split at h
      · simp only [Option.map_eq_some_iff] at h; obtain ⟨_, h1, rfl⟩ := h; exact h1
      · cases h
  · cases h

/-- The region's beginning: room for its numbers, and its variables. -/
theorem region_begin {γ : Gh} {st : St} {w : World} (hS : RelS γ st w) {is : List MI} (hk : ∀ j (h : j < is.length) k z, is[j].op = .alloc k z → k = j) {n : Nat} (hn : is.length = n) :
    Step γ st w { γ with top := γ.top + n } (hoist st.next is { st with next := st.next + n }) w (fun id => id < st.next) ∧ (hoist st.next is { st with next := st.next + n }).next = st.next + n ∧
    ∀ j (h : j < is.length), Fresh { γ with top := γ.top + n } (hoist st.next is { st with next := st.next + n }) (st.next + j) is[j].op := by
  obtain ⟨h1, h2, h3, h4, h5⟩ := hoist_spec st.next is 0 { st with next := st.next + n } (fun j h k z ha => by rw [Nat.zero_add]; exact hk j h k z ha)
  generalize hoist st.next is { st with next := st.next + n } = st1 at *
  simp only at h1 h2 h3 h4 h5
  have hnb : ∀ id, st.next ≤ id → γ.box id = none := fun id h => by
    cases hb : γ.box id with
    | none => rfl
    | some b => have := (hS.inb id b hb).2; omega
  have hnf : ∀ id, st.next ≤ id → γ.fam id = none := fun id h => by
    cases hb : γ.fam id with
    | none => rfl
    | some p => have := (hS.inf id p.1 p.2 hb).2; omega
  have hold : ∀ id, id < st.next → st1.boxes id = st.boxes id := fun id h => h4 id (fun j _ => by omega)
  have hle : Le ⟨γ, st.gens, w⟩ ⟨{ γ with top := γ.top + n }, st1.gens, w⟩ := by
    rw [h3]
    exact ⟨fun _ _ h => h, fun _ => Nat.le_refl _, Nat.le_refl _, fun _ _ h => ⟨h, rfl⟩, fun _ _ _ _ h1 h2 _ => ⟨h1, h2, rfl⟩, Nat.le_add_right _ _, .refl _⟩
  refine ⟨⟨hle, ⟨?_, ?_, ?_, ?_, ?_, ?_, by rw [h1]; show γ.top + n = _; rw [hS.top]⟩, fun id hid => ⟨rfl, rfl, fun _ => ⟨hold id hid, by rw [h2]⟩⟩, by omega⟩, h1, fun j hj => ⟨hnf _ (by omega), hnb _ (by omega), by rw [h2]; exact (hS.new _ (by omega)).2, ?_⟩⟩
  · intro id cs b hb hg
    rw [hold id (hS.inb id b hg).2] at hb
    obtain ⟨k1, vs, e, k2, k3, k4⟩ := hS.box id cs b hb hg
    exact ⟨k1, vs, e, k2, k3, fun i hi => (k4 i hi).mono hle⟩
  · intro id s p b hi hg
    rw [h2] at hi
    exact hS.iter id s p b hi hg
  · intro id b hb; have := hS.inb id b hb; omega
  · intro τ b base hb; have := hS.inf τ b base hb; omega
  · exact hS.free
  · intro id hid
    rw [h2]
    have := hS.new id (by omega)
    exact ⟨by rw [h4 id (fun j hj => by omega)]; exact this.1, this.2⟩
  · have := h5 j hj (by rw [Nat.zero_add]; exact (hS.new _ (by omega)).1)
    rwa [Nat.zero_add] at this

theorem windows_get {is : List MI} {M : List Nat} {n : Nat} : ∀ (ms : List MI) (c : Nat), (windows is M n c ms).length = ms.length ∧ ∀ j (h : j < ms.length) (h' : j < (windows is M n c ms).length),
    (windows is M n c ms)[j].dst = ms[j].dst ∧ (windows is M n c ms)[j].guard = ms[j].guard ∧ (windows is M n c ms)[j].op = ms[j].op := by
  intro ms
  induction ms with
  | nil => intro c; exact ⟨rfl, fun j h => by simp at h⟩
  | cons m ms ih =>
    intro c
    obtain ⟨h1, h2⟩ := ih (c + 1)
    refine ⟨by simp [windows, h1], fun j h h' => ?_⟩
    cases j with
    | zero => simp only [windows, List.getElem_cons_zero]; split <;> exact ⟨rfl, rfl, rfl⟩
    | succ j =>
      simp only [windows, List.getElem_cons_succ]
      exact h2 j (by simpa using h) (by simpa [windows] using h')

section
variable {P : Program} {call : Nat → List AV → St → Option (AV × St)}

theorem reg_sound (hcall : ∀ f args st v st', call f args st = some (v, st') → CallOk P f args st v st') {nt : Nat} {ops : Array Oper} {id : Nat} {is : List MI} (hc : compIs P nt ops 0 ops.toList = some is)
    {γ : Gh} {st : St} {w : World} {e : Env} {a : Act} (hS : RelS γ st w) (hE : RelE γ st w nt e a) {e' : Env} {st' : St} (hev : evIs call st.next is e (hoist st.next is { st with next := st.next + ops.size }) = some (e', st'))
    {Q : Exit → Act → World → Prop} (hQ : ∀ γ' w' a', Step γ st w γ' st' w' (fun id => id < st.next) → RelE γ' st' w' nt e' a' → Q .normal a' w') : (Code.region id ops false).wp P Q a w := by
  obtain ⟨hl, hg⟩ := compIs_get _ _ _ hc
  have hlen : is.length = ops.size := by simpa using hl
  obtain ⟨hst, hnx, hfr⟩ := region_begin hS (is := is) (n := ops.size) (fun j h k z ha => by
    have := compI_op (hg j (by omega) h)
    have := comp_alloc this ha; omega) hlen
  refine wp_region ?_
  rw [List.range_eq_range', show ops.size = ops.toList.length by simp]
  refine ops_sound hcall ops.toList 0 is hc (fun i o h => by rw [Nat.zero_add, ← Array.getElem?_toList]; exact h) (by simp) _ _ w e a hst.rel (hE.mono hst.le) (base := st.next) (by omega) (fun j h => by rw [Nat.zero_add]; exact hfr j h) e' st' hev (fun γ' w' a' h1 h2 => hQ γ' w' a' ?_ h2)
  exact hst.trans h1 (fun id h => h) (fun id h => .inl h)

theorem dreg_sound (hm : P.follows .mixedOrders = true) (hcall : ∀ f args st v st', call f args st = some (v, st') → CallOk P f args st v st') {nt : Nat} {ops : Array Oper} {id : Nat} {m : MC} (hc : compD P nt ops = some m)
    {γ : Gh} {st : St} {w : World} {e : Env} {a : Act} (hS : RelS γ st w) (hE : RelE γ st w nt e a) {x : X} {e' : Env} {st' : St} {k : Nat} (hev : evC call k m e st = some (x, e', st'))
    {Q : Exit → Act → World → Prop} (hQ : ∀ γ' w' a', Step γ st w γ' st' w' (fun id => id < st.next) → RelE γ' st' w' nt e' a' → Q (MX x) a' w') : (Code.region id ops true).wp P Q a w := by
  simp only [compD, Option.bind_eq_some_iff] at hc
  obtain ⟨is0, hc, hc2⟩ := hc
  split at hc2
  case isFalse => cases hc2
  rename_i hdok
  simp only [Option.some.injEq] at hc2
  subst hc2
  generalize hM : masksOf ops.toList [] = M at *
  obtain ⟨hw1, hw2⟩ := windows_get (is := is0) (M := M) (n := ops.size) is0 0
  obtain ⟨hl, hg⟩ := compIs_get _ _ _ hc
  have hl' : is0.length = ops.size := by simpa using hl
  generalize windows is0 M ops.size 0 is0 = is at *
  have hlen : is.length = ops.size := by omega
  have hcomp : ∀ i (hi : i < is.length) o, ops[i]? = some o → ∃ m, compI P nt ops i o = some m ∧ m.dst = is[i].dst ∧ m.guard = is[i].guard ∧ m.op = is[i].op := by
    intro i hi o ho
    have h1 := hg i (by simpa using (by omega : i < ops.size)) (by omega)
    obtain ⟨h2, h3, h4⟩ := hw2 i (by omega) hi
    have : ops.toList[i]'(by simpa using (by omega : i < ops.size)) = o := by
      have := ho
      rw [← Array.getElem?_toList, List.getElem?_eq_getElem (by simpa using (by omega : i < ops.size))] at this
      exact Option.some.inj this
    rw [this, Nat.zero_add] at h1
    exact ⟨_, h1, h2.symm, h3.symm, h4.symm⟩
  obtain ⟨hst, hnx, hfr⟩ := region_begin hS (is := is) (n := ops.size) (fun j h k z ha => by
    obtain ⟨m, h1, _, _, h2⟩ := hcomp j h ops[j] (by simp)
    exact comp_alloc (compI_op h1) (h2.trans ha)) hlen
  have hd := dOk_spec hlen hdok
  simp only [evC, Option.map_eq_some_iff, Prod.mk.injEq, Prod.exists] at hev
  obtain ⟨E, S, F, hev, rfl, rfl, rfl⟩ := hev
  generalize hoist st.next is { st with next := st.next + ops.size } = st1 at *
  obtain ⟨es, Ts, h0, h1, h2, h3, _, _, ht⟩ := evD_told is 0 (fun _ => st1) [] e st1 E S F (fun m hm => by omega) hev
  simp only [Nat.zero_add] at h3 ht
  refine wp_region_any hm ?_
  have hdrew : RelS { γ with top := γ.top + ops.size } st1 w.drew := relS_drew hst.rel
  refine any_sound hcall hd hcomp (es := es) (Ts := Ts) ht (γ0 := { γ with top := γ.top + ops.size }) (st0 := st1) (w0 := w.drew) (base := st.next) (by omega) (fun γ' w' a' h4 h5 => hQ γ' w' a' ?_ ?_) ops.size _ { γ with top := γ.top + ops.size } e 0 a w.drew ?_ ?_
  · rw [h3] at h4
    have hst' : Step γ st w { γ with top := γ.top + ops.size } st1 w.drew (fun id => id < st.next) := ⟨hst.le.trans (le_drew _ _ _), hdrew, hst.fam, hst.next⟩
    exact hst'.trans h4 (fun id h => h) (fun id h => .inl h)
  · rw [h3, h1] at h5; exact h5
  · refine Nat.le_trans (List.length_filter_le _ _) (by simp)
  · have hnd : ∀ k, ¬ Done (Array.replicate ops.size false) k := fun k h => by
      unfold Done at h
      rw [Array.getElem?_replicate] at h
      split at h <;> simp at h
    refine ⟨by simp, fun i k h => absurd h (hnd i), fun k hk hm => ⟨fun h => absurd h (hnd k), fun h => by omega⟩, Nat.zero_le _, ?_, ?_, fun t k hk hw h => absurd h (hnd k), fun t _ => by rw [h0], fun i hi _ => ?_⟩
    · rw [h2]; exact Step.refl hdrew _
    · rw [h2]; exact (hE.mono (hst.le.trans (le_drew _ _ _)))
    · rw [h2]
      exact ⟨(hfr i hi).fam, (hfr i hi).box, (hfr i hi).iter, (hfr i hi).pre⟩

end
end Go.Ev
