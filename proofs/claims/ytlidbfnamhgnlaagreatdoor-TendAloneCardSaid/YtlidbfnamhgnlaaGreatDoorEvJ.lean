/- The evaluator's state and the machine's world change together: new variables, new rows, rows written. -/
import Derived.Test.YtlidbfnamhgnlaaGreatDoorEvI
namespace Go.Ev
open Go

theorem le_change {γ γ' : Gh} {g g' : Nat → Nat} {w w' : World} (B : Nat → Prop) (hsz : w.heap.size ≤ w'.heap.size)
    (hk : ∀ b, b < w.heap.size → ¬ B b → w'.heap[b]? = w.heap[b]? ∧ γ'.owner b = γ.owner b)
    (hB : ∀ b, b < w.heap.size → B b → γ.owner b ≠ .other ∧ ∀ τ, γ.owner b = .fam τ → g τ < g' τ)
    (hbox : ∀ id b, γ.box id = some b → γ'.box id = some b) (hfam : ∀ τ b base, γ.fam τ = some (b, base) → γ'.fam τ = some (b, base)) (hg : ∀ τ, g τ ≤ g' τ) (hq : Still w w') (htop : γ.top ≤ γ'.top := by exact Nat.le_refl _) :
    Le ⟨γ, g, w⟩ ⟨γ', g', w'⟩ where
  box := hbox
  gens := hg
  size := hsz
  other b hb ho := by
    by_cases h : B b
    · exact absurd ho (hB b hb h).1
    · obtain ⟨h1, h2⟩ := hk b hb h
      exact ⟨h2.trans ho, h1⟩
  fam τ b base hgs hf ho hb := by
    by_cases h : B b
    · have := (hB b hb h).2 τ ho
      simp at hgs; omega
    · obtain ⟨h1, h2⟩ := hk b hb h
      exact ⟨hfam τ b base hf, h2.trans ho, h1⟩
  top := htop
  still := hq

/-- A new variable. -/
theorem step_box {γ : Gh} {st : St} {w : World} (hS : RelS γ st w) {id : Nat} (hid0 : id < st.next) (hnone : γ.box id = none) (hit : st.iters id = none) (cs : List AV) (vs : Array Value) (e : TypeId) (hl : cs.length = vs.size)
    (hr : ∀ i (h : i < cs.length), RelV ⟨γ, st.gens, w⟩ cs[i] (vs.getD i undef)) :
    ∃ γ', Step γ st w γ' { st with boxes := upd st.boxes id (some cs) } (w.alloc (.cells vs e)) (fun j => j ≠ id) ∧ γ'.box id = some w.heap.size := by
  have hle : Le ⟨γ, st.gens, w⟩ ⟨{ box := upd γ.box id (some w.heap.size), owner := fun b' => if b' = w.heap.size then .box id else γ.owner b', fam := γ.fam, top := γ.top }, st.gens, w.alloc (.cells vs e)⟩ :=
    le_alloc _ _ _ _ (fun id' b h => by
      by_cases hid : id' = id
      · subst hid; rw [hnone] at h; cases h
      · simp [upd, hid, h]) (fun τ b base h => h)
  refine ⟨_, ⟨hle, ?_, fun j hj => by simp [upd, hj], by simp⟩, by simp [upd]⟩
  refine ⟨?_, ?_, ?_, ?_, ?_, ?_, hS.top⟩
  · intro id' cs' b h1 h2
    by_cases hid : id' = id
    · subst hid
      simp [upd] at h1 h2
      subst h1; subst h2
      exact ⟨by simp, vs, e, heap_new w _, hl, fun i hi => (hr i hi).mono hle⟩
    · simp [upd, hid] at h1 h2
      obtain ⟨ho, vs', e', hv, hl', hr'⟩ := hS.box id' cs' b h1 h2
      have hb := (hS.inb id' b h2).1
      exact ⟨by simp [Nat.ne_of_lt hb, ho], vs', e', by rw [heap_old w _ hb]; exact hv, hl', fun i hi => (hr' i hi).mono hle⟩
  · intro id' s p b h1 h2
    by_cases hid : id' = id
    · subst hid; simp [hit] at h1
    · simp [upd, hid] at h2
      obtain ⟨ho, hv⟩ := hS.iter id' s p b h1 h2
      have hb := (hS.inb id' b h2).1
      exact ⟨by simp [Nat.ne_of_lt hb, ho], by rw [heap_old w _ hb]; exact hv⟩
  · intro id' b h
    by_cases hid : id' = id
    · subst hid; simp [upd] at h; subst h; simpa using hid0
    · simp [upd, hid] at h
      have := hS.inb id' b h
      simp; omega
  · intro τ b base h
    have := hS.inf τ b base h
    simp; omega
  · intro b hb
    simp at hb
    simp [Nat.ne_of_gt (show w.heap.size < b by omega), hS.free b (by omega)]
  · intro id' hid
    have := hS.new id' hid
    simp at hid
    simp [upd, show id' ≠ id by omega, this]

/-- A new iterator. -/
theorem step_iter {γ : Gh} {st : St} {w : World} (hS : RelS γ st w) {id : Nat} (hid0 : id < st.next) (hnone : γ.box id = none) (hbx : st.boxes id = none) (s : ByteArray) :
    ∃ γ', Step γ st w γ' { st with iters := upd st.iters id (some (s, 0)) } (w.alloc (.stringIter s 0)) (fun j => j ≠ id) ∧ γ'.box id = some w.heap.size := by
  have hle : Le ⟨γ, st.gens, w⟩ ⟨{ box := upd γ.box id (some w.heap.size), owner := fun b' => if b' = w.heap.size then .box id else γ.owner b', fam := γ.fam, top := γ.top }, st.gens, w.alloc (.stringIter s 0)⟩ :=
    le_alloc _ _ _ _ (fun id' b h => by
      by_cases hid : id' = id
      · subst hid; rw [hnone] at h; cases h
      · simp [upd, hid, h]) (fun τ b base h => h)
  refine ⟨_, ⟨hle, ?_, fun j hj => by simp [upd, hj], by simp⟩, by simp [upd]⟩
  refine ⟨?_, ?_, ?_, ?_, ?_, ?_, hS.top⟩
  · intro id' cs' b h1 h2
    by_cases hid : id' = id
    · subst hid; simp [hbx] at h1
    · simp [upd, hid] at h2
      obtain ⟨ho, vs', e', hv, hl', hr'⟩ := hS.box id' cs' b h1 h2
      have hb := (hS.inb id' b h2).1
      exact ⟨by simp [Nat.ne_of_lt hb, ho], vs', e', by rw [heap_old w _ hb]; exact hv, hl', fun i hi => (hr' i hi).mono hle⟩
  · intro id' s' p b h1 h2
    by_cases hid : id' = id
    · subst hid
      simp [upd] at h1 h2
      obtain ⟨rfl, rfl⟩ := h1
      subst h2
      exact ⟨by simp, heap_new w _⟩
    · simp [upd, hid] at h1 h2
      obtain ⟨ho, hv⟩ := hS.iter id' s' p b h1 h2
      have hb := (hS.inb id' b h2).1
      exact ⟨by simp [Nat.ne_of_lt hb, ho], by rw [heap_old w _ hb]; exact hv⟩
  · intro id' b h
    by_cases hid : id' = id
    · subst hid; simp [upd] at h; subst h; simpa using hid0
    · simp [upd, hid] at h
      have := hS.inb id' b h
      simp; omega
  · intro τ b base h
    have := hS.inf τ b base h
    simp; omega
  · intro b hb
    simp at hb
    simp [Nat.ne_of_gt (show w.heap.size < b by omega), hS.free b (by omega)]
  · intro id' hid
    have := hS.new id' hid
    simp at hid
    simp [upd, show id' ≠ id by omega, this]

/-- What the state tells of variables and iterators, in a world that has other blocks in whose place they don't lie. -/
theorem RelS.keep {γ γ' : Gh} {st st' : St} {w w' : World} (hS : RelS γ st w) (hle : Le ⟨γ, st.gens, w⟩ ⟨γ', st'.gens, w'⟩) (hb : st'.boxes = st.boxes) (hi : st'.iters = st.iters) (hn : st'.next = st.next)
    (hbox : γ'.box = γ.box) (hkeep : ∀ b id, b < w.heap.size → γ.owner b = .box id → w'.heap[b]? = w.heap[b]? ∧ γ'.owner b = .box id)
    (hfam : ∀ τ b base, γ'.fam τ = some (b, base) → b < w'.heap.size ∧ τ < st.next) (hfree : ∀ b, w'.heap.size ≤ b → γ'.owner b = .other) (htop : γ'.top = γ.top := by rfl) : RelS γ' st' w' where
  box id cs b h1 h2 := by
    rw [hb] at h1; rw [hbox] at h2
    obtain ⟨ho, vs, e, hv, hl, hr⟩ := hS.box id cs b h1 h2
    obtain ⟨k1, k2⟩ := hkeep b id (hS.inb id b h2).1 ho
    exact ⟨k2, vs, e, k1.trans hv, hl, fun i hi => (hr i hi).mono hle⟩
  iter id s p b h1 h2 := by
    rw [hi] at h1; rw [hbox] at h2
    obtain ⟨ho, hv⟩ := hS.iter id s p b h1 h2
    obtain ⟨k1, k2⟩ := hkeep b id (hS.inb id b h2).1 ho
    exact ⟨k2, k1.trans hv⟩
  inb id b h := by
    rw [hbox] at h
    have := hS.inb id b h
    have := hle.size
    simp at this
    rw [hn]; omega
  inf τ b base h := by rw [hn]; exact hfam τ b base h
  free := hfree
  new id h := by rw [hn] at h; rw [hb, hi]; exact hS.new id h
  top := by rw [htop, hS.top, hn]

/-- A new row, a family of its own. -/
theorem step_fam {γ : Gh} {st : St} {w w' : World} (hS : RelS γ st w) {id : Nat} (hid : id < st.next) (hf : γ.fam id = none) {sz : Nat} {xs : List AV} (hw : Wf sz xs) {m : Nat} (hm : xs.length ≤ m)
    (vs : Array Value) (e : TypeId) (fr : Nat × Nat) (hh : w'.heap = w.heap.push (.cells vs e fr)) (hvs : m * sz ≤ vs.size) (hfr : ∀ i, i < m * sz → (decide (fr.1 ≤ i) && decide (i < fr.2)) = false) (hq : Still w w')
    (hr : ∀ i (h : i < (flat xs).length), RelV ⟨γ, st.gens, w⟩ (flat xs)[i] (vs.getD i undef)) :
    ∃ γ', Step γ st w γ' st w' (fun i => i ≠ id) ∧ RelV ⟨γ', st.gens, w'⟩ (.sl (.fam id (st.gens id) 0) sz xs) (.slice (some ⟨w.heap.size, 0, none⟩) xs.length m) := by
  have hold : ∀ b, b < w.heap.size → w'.heap[b]? = w.heap[b]? := fun b hb => by rw [hh, Array.getElem?_push_lt hb, Array.getElem?_eq_getElem hb]
  have hnew : w'.heap[w.heap.size]? = some (.cells vs e fr) := by rw [hh]; simp
  have hsize : w'.heap.size = w.heap.size + 1 := by rw [hh]; simp
  have hle : Le ⟨γ, st.gens, w⟩ ⟨{ box := γ.box, owner := fun b' => if b' = w.heap.size then .fam id else γ.owner b', fam := upd γ.fam id (some (w.heap.size, 0)), top := γ.top }, st.gens, w'⟩ :=
    le_change (fun _ => False) (by omega) (fun b hb _ => ⟨hold b hb, by simp [Nat.ne_of_lt hb]⟩) (fun _ _ h => h.elim) (fun _ _ h => h)
      (fun τ b base h => by
        by_cases e : τ = id
        · subst e; rw [hf] at h; cases h
        · simp [upd, e, h]) (fun _ => Nat.le_refl _) hq
  refine ⟨_, ⟨hle, ?_, fun i hi => by simp [upd, hi], Nat.le_refl _⟩, ?_⟩
  · refine hS.keep hle rfl rfl rfl rfl (fun b i hb ho => ⟨hold b hb, by simp [Nat.ne_of_lt hb, ho]⟩) (fun τ b base h => ?_) (fun b hb => ?_)
    · by_cases e : τ = id
      · subst e; simp [upd] at h; obtain ⟨rfl, _⟩ := h; omega
      · simp [upd, e] at h; have := hS.inf τ b base h; omega
    · simp [show b ≠ w.heap.size by omega, hS.free b (by omega)]
  · have hfl := flat_length hw
    have hlm : xs.length * sz ≤ m * sz := Nat.mul_le_mul_right _ hm
    have := RelV.slfam (X := ⟨{ box := γ.box, owner := fun b' => if b' = w.heap.size then Own.fam id else γ.owner b', fam := upd γ.fam id (some (w.heap.size, 0)), top := γ.top }, st.gens, w'⟩)
      id (st.gens id) 0 sz xs w.heap.size 0 m (fun i => vs.getD i undef) rfl (by simp [upd]) (by simp) (by simp [hsize]) hw hm
      (fun i hi => by simp [World.cell?, hnew, show i < vs.size by omega])
      (fun i hi => by simp only [World.frozen?, hnew]; simpa using hfr i hi)
      (fun i hi => by
        have : i < vs.size := by omega
        simp [World.cell?, hnew, Array.getD_eq_getD_getElem?, this])
      (fun i hi => (hr i hi).mono hle) (by rw [show _ = st.next from hS.top]; exact hid)
    simpa using this

/-- A family's row is written, and told anew: all that was told of the family falls away. -/
theorem step_write {γ : Gh} {st : St} {w w' : World} (hS : RelS γ st w) {τ b : Nat} (hb : b < w.heap.size) (ho : γ.owner b = .fam τ) (hsz : w'.heap.size = w.heap.size) (hk : ∀ b', b' ≠ b → w'.heap[b']? = w.heap[b']?) (hq : Still w w') :
    Step γ st w γ { st with gens := upd st.gens τ (st.gens τ + 1) } w' (fun _ => True) := by
  have hle : Le ⟨γ, st.gens, w⟩ ⟨γ, upd st.gens τ (st.gens τ + 1), w'⟩ :=
    le_change (fun b' => b' = b) (by omega) (fun b' _ h => ⟨hk b' h, rfl⟩) (fun b' _ h => by subst h; exact ⟨by simp [ho], fun τ' h' => by rw [ho] at h'; cases h'; simp [upd]⟩) (fun _ _ h => h) (fun _ _ _ h => h)
      (fun τ' => by unfold upd; split <;> simp_all) hq
  refine ⟨hle, ?_, fun _ _ => ⟨rfl, rfl, fun _ => ⟨rfl, rfl⟩⟩, Nat.le_refl _⟩
  refine hS.keep hle rfl rfl rfl rfl (fun b' i hb' ho' => ⟨hk b' (by rintro rfl; rw [ho] at ho'; cases ho'), ho'⟩) (fun τ b base h => ?_) (fun b hb => hS.free b (by omega))
  have := hS.inf τ b base h; omega

end Go.Ev
