/- Each operation of the evaluator is what the machine does: loads, stores, new memory. -/
import Derived.Test.YtlidbfnamhgnlaaGreatDoorEvC
import Derived.Laws.Append
import Derived.Laws.AppendOwn
import Derived.Laws.World
import Derived.Laws.Cells
namespace Go.Ev
open Go

theorem add_at (b off n : Nat) : (⟨b, off, none⟩ : Addr).add n = ⟨b, off + n, none⟩ := by unfold Addr.add; split <;> simp_all

theorem cell_lt {w : World} {b off : Nat} {sp : Option Nat} {v : Value} (h : w.cell? ⟨b, off, sp⟩ = some v) : b < w.heap.size := World.block_lt_of_cell? w _ h

/-! ### a row of cells written -/

def setCells (w : World) (b : Nat) : Nat → List Value → World
  | _, [] => w
  | off, v :: vs => setCells (w.setCell ⟨b, off, none⟩ v) b (off + 1) vs

theorem setCells_still (b : Nat) (vs : List Value) : ∀ (w : World) (off : Nat), Still w (setCells w b off vs) := by
  induction vs with
  | nil => intro w off; exact .refl _
  | cons v vs ih => intro w off; exact Still.trans (w' := w.setCell ⟨b, off, none⟩ v) ⟨rfl, rfl⟩ (ih _ _)

theorem setCells_size (b : Nat) (vs : List Value) : ∀ (w : World) (off : Nat), (setCells w b off vs).heap.size = w.heap.size := by
  induction vs with
  | nil => intros; rfl
  | cons v vs ih => intro w off; simp only [setCells]; rw [ih]; simp

theorem setCell_other_block (w : World) (a : Addr) (v : Value) (b : Nat) (h : b ≠ a.block) : (w.setCell a v).heap[b]? = w.heap[b]? := by
  simp only [World.setCell]
  rw [Array.getElem?_modify]
  simp [Ne.symm h]

theorem setCells_other (b : Nat) (vs : List Value) : ∀ (w : World) (off b' : Nat), b' ≠ b → (setCells w b off vs).heap[b']? = w.heap[b']? := by
  induction vs with
  | nil => intros; rfl
  | cons v vs ih => intro w off b' h; simp only [setCells]; rw [ih _ _ _ h]; exact setCell_other_block _ _ _ _ h

theorem setCells_frozen (b : Nat) (vs : List Value) : ∀ (w : World) (off : Nat) (a : Addr), (setCells w b off vs).frozen? a = w.frozen? a := by
  induction vs with
  | nil => intros; rfl
  | cons v vs ih => intro w off a; simp only [setCells]; rw [ih]; simp

theorem setCells_cell_off (b : Nat) (vs : List Value) : ∀ (w : World) (off j : Nat), (j < off ∨ off + vs.length ≤ j) → (setCells w b off vs).cell? ⟨b, j, none⟩ = w.cell? ⟨b, j, none⟩ := by
  induction vs with
  | nil => intros; rfl
  | cons v vs ih =>
    intro w off j h
    simp only [setCells]
    rw [ih _ _ _ (by simp at h; omega)]
    exact World.cell?_setCell_other w _ _ v (by simp at h; simp; omega)

theorem setCells_cell_in (b : Nat) (vs : List Value) : ∀ (w : World) (off j : Nat), (∀ i, i < vs.length → (w.cell? ⟨b, off + i, none⟩).isSome = true) → j < vs.length →
    (setCells w b off vs).cell? ⟨b, off + j, none⟩ = vs[j]? := by
  induction vs with
  | nil => intro w off j h hj; simp at hj
  | cons v vs ih =>
    intro w off j h hj
    simp only [setCells]
    have h0 := h 0 (by simp)
    obtain ⟨u, hu⟩ := Option.isSome_iff_exists.1 h0
    simp only [Nat.add_zero] at hu
    cases j with
    | zero =>
      rw [Nat.add_zero, setCells_cell_off _ _ _ _ _ (by omega)]
      exact World.cell?_setCell_same w _ v hu
    | succ j =>
      have := ih (w.setCell ⟨b, off, none⟩ v) (off + 1) j (fun i hi => by
        rw [World.cell?_setCell_other w _ _ v (by simp; omega)]
        have := h (i + 1) (by simp; omega)
        rwa [show off + (i + 1) = off + 1 + i by omega] at this) (by simp at hj; omega)
      rw [show off + (j + 1) = off + 1 + j by omega, this]
      simp

theorem run_storeCells (P : Program) (b : Nat) (vs : List Value) : ∀ (w : World) (off i : Nat), (∀ v ∈ vs, v.oneCell' = true) →
    (∀ j, j < vs.length → (w.cell? ⟨b, off + i + j, none⟩).isSome = true ∧ w.frozen? ⟨b, off + i + j, none⟩ = false) →
    (storeCells ⟨b, off, none⟩ vs i).run P w = .ok () (setCells w b (off + i) vs) := by
  induction vs with
  | nil => intros; rfl
  | cons v vs ih =>
    intro w off i h1 h2
    obtain ⟨h0, hf0⟩ := h2 0 (by simp)
    obtain ⟨u, hu⟩ := Option.isSome_iff_exists.1 h0
    simp only [Nat.add_zero] at hu hf0
    simp only [storeCells, Sem.run_bind, add_at]
    rw [run_store P w _ v _ (h1 v (by simp))]
    simp only [hu, hf0, Result.andThen]
    have := ih (w.setCell ⟨b, off + i, none⟩ v) off (i + 1) (fun v hv => h1 v (by simp [hv])) (fun j hj => by
      obtain ⟨k1, k2⟩ := h2 (j + 1) (by simp; omega)
      rw [show off + i + (j + 1) = off + (i + 1) + j by omega] at k1 k2
      rw [World.cell?_setCell_other w _ _ v (by simp; omega)]
      exact ⟨k1, by simpa using k2⟩)
    simp only [Bool.false_eq_true, if_false]
    rw [this]
    rfl

/-! ### operands -/

theorem RelV.oneCell {X : Ctx} {x : AV} {v : Value} (h : RelV X x v) (hs : scalar x = true) : v.oneCell' = true := by
  cases h <;> simp_all [scalar, Value.oneCell']

theorem relV_avOf (X : Ctx) : ∀ (n : Nat) (v : Value) (x : AV), SizeOf.sizeOf v ≤ n → avOf v = some x → RelV X x v := by
  intro n
  induction n with
  | zero => intro v x hn; cases v <;> simp at hn
  | succ n ih =>
    intro v x hn h
    have list : ∀ (cs : List Value) (xs : List AV), (∀ c ∈ cs, SizeOf.sizeOf c ≤ n) → avsOf cs = some xs → xs.length = cs.length ∧ ∀ i (h : i < xs.length), RelV X xs[i] (cs.getD i undef) := by
      intro cs
      induction cs with
      | nil => intro xs _ h; simp [avsOf] at h; subst h; simp
      | cons c cs ihc =>
        intro xs hs h
        simp only [avsOf] at h
        cases h1 : avOf c with
        | none => simp [h1] at h
        | some y =>
          cases h2 : avsOf cs with
          | none => simp [h1, h2] at h
          | some ys =>
            simp [h1, h2] at h
            subst h
            obtain ⟨k1, k2⟩ := ihc ys (fun c hc => hs c (by simp [hc])) h2
            refine ⟨by simp [k1], fun i hi => ?_⟩
            cases i with
            | zero => exact ih c y (hs c (by simp)) h1
            | succ i => simpa using k2 i (by simp at hi; omega)
    cases v with
    | bool b => simp [avOf] at h; subst h; exact .bool b
    | int k m => simp [avOf] at h; subst h; exact .int k m
    | string s => simp [avOf] at h; subst h; exact .str s
    | pointer a => cases a <;> simp [avOf] at h; subst h; exact .nilp
    | slice a l c =>
      cases a with
      | some a => simp [avOf] at h
      | none =>
        cases l with
        | succ l => simp [avOf] at h
        | zero => cases c with
          | succ c => simp [avOf] at h
          | zero => simp [avOf] at h; subst h; exact .slnil 0
    | nilFunc => simp [avOf] at h; subst h; exact .nilf
    | nilIface => simp [avOf] at h; subst h; exact .nili
    | agg cs =>
      obtain ⟨cs⟩ := cs
      simp only [avOf, Option.map_eq_some_iff] at h
      obtain ⟨xs, h1, rfl⟩ := h
      obtain ⟨k1, k2⟩ := list cs xs (fun c hc => by
        have := List.sizeOf_lt_of_mem hc
        simp at hn; omega) h1
      refine .agg xs _ (by simp [k1]) (fun i hi => ?_)
      have := k2 i hi
      simpa [Array.getD_eq_getD_getElem?, List.getD_eq_getElem?_getD] using this
    | _ => simp [avOf] at h

structure RelE (γ : Gh) (st : St) (w : World) (nt : Nat) (e : Env) (a : Act) : Prop where
  defers : a.defers = []
  size : a.tmps.size = nt
  rel : ∀ t, RelV ⟨γ, st.gens, w⟩ (e t) (a.tmps.getD t undef)

theorem relOpd {γ : Gh} {st : St} {w : World} {nt : Nat} {e : Env} {a : Act} (hE : RelE γ st w nt e a) {o : Operand} {x : Opd} (h : opdOf o = some x) :
    RelV ⟨γ, st.gens, w⟩ (x.ev e) (a.eval o) := by
  cases o with
  | tmp t => simp [opdOf] at h; subst h; exact hE.rel t
  | const v => simp [opdOf] at h; obtain ⟨y, h1, rfl⟩ := h; exact relV_avOf _ _ v y (Nat.le_refl _) h1
  | func f => simp [opdOf] at h; subst h; exact .fn f [] #[] rfl (fun i hi => absurd hi (by simp))
  | global g => simp [opdOf] at h

/-- One step of the evaluator beside one of the machine's: what was told stays told, the state tells the new world, and no family is begun but at the ids that `N` lets. -/
structure Step (γ : Gh) (st : St) (w : World) (γ' : Gh) (st' : St) (w' : World) (N : Nat → Prop) : Prop where
  le : Le ⟨γ, st.gens, w⟩ ⟨γ', st'.gens, w'⟩
  rel : RelS γ' st' w'
  fam : ∀ id, N id → γ'.fam id = γ.fam id ∧ γ'.box id = γ.box id ∧ (γ.box id = none → st'.boxes id = st.boxes id ∧ st'.iters id = st.iters id)
  next : st.next ≤ st'.next

theorem RelE.mono {γ γ' : Gh} {st st' : St} {w w' : World} {nt : Nat} {e : Env} {a : Act} (h : RelE γ st w nt e a) (hl : Le ⟨γ, st.gens, w⟩ ⟨γ', st'.gens, w'⟩) : RelE γ' st' w' nt e a :=
  ⟨h.defers, h.size, fun t => (h.rel t).mono hl⟩

theorem Step.refl {γ : Gh} {st : St} {w : World} (h : RelS γ st w) (N : Nat → Prop) : Step γ st w γ st w N := ⟨Le.refl _, h, fun _ _ => ⟨rfl, rfl, fun _ => ⟨rfl, rfl⟩⟩, Nat.le_refl _⟩

theorem Step.trans {γ γ' γ'' : Gh} {st st' st'' : St} {w w' w'' : World} {N N' M : Nat → Prop} (h : Step γ st w γ' st' w' N) (k : Step γ' st' w' γ'' st'' w'' N')
    (hN : ∀ id, M id → N id) (hN' : ∀ id, M id → N' id) : Step γ st w γ'' st'' w'' M :=
  ⟨h.le.trans k.le, k.rel, fun id hi => by
    obtain ⟨h1, h2, h3⟩ := h.fam id (hN id hi)
    obtain ⟨k1, k2, k3⟩ := k.fam id (hN' id hi)
    exact ⟨k1.trans h1, k2.trans h2, fun hb => ⟨((k3 (h2.trans hb)).1).trans (h3 hb).1, ((k3 (h2.trans hb)).2).trans (h3 hb).2⟩⟩, Nat.le_trans h.next k.next⟩

/-! ### a world that only drew, or that has one block more -/

theorem le_drew (γ : Gh) (g : Nat → Nat) (w : World) : Le ⟨γ, g, w⟩ ⟨γ, g, w.drew⟩ :=
  ⟨fun _ _ h => h, fun _ => Nat.le_refl _, Nat.le_refl _, fun _ _ h => ⟨h, rfl⟩, fun _ _ _ _ h1 h2 _ => ⟨h1, h2, rfl⟩, Nat.le_refl _, ⟨rfl, rfl⟩⟩

theorem relS_drew {γ : Gh} {st : St} {w : World} (h : RelS γ st w) : RelS γ st w.drew where
  box id cs b h1 h2 := by
    obtain ⟨ho, vs, e, hv, hl, hr⟩ := h.box id cs b h1 h2
    exact ⟨ho, vs, e, hv, hl, fun i hi => (hr i hi).mono (le_drew _ _ _)⟩
  iter id s p b h1 h2 := h.iter id s p b h1 h2
  inb := h.inb
  inf := h.inf
  free := h.free
  new := h.new
  top := h.top

theorem heap_new (w : World) (o : Obj) : (w.alloc o).heap[w.heap.size]? = some o := by
  show (w.heap.push o)[w.heap.size]? = some o
  simp
theorem heap_old (w : World) (o : Obj) {b : Nat} (h : b < w.heap.size) : (w.alloc o).heap[b]? = w.heap[b]? := by
  show (w.heap.push o)[b]? = _
  rw [Array.getElem?_push_lt h, Array.getElem?_eq_getElem h]

def Gh.own (γ : Gh) (b : Nat) (o : Own) : Gh := { γ with owner := fun b' => if b' = b then o else γ.owner b' }

/-- A new block whose owner is set: nothing that was told is touched. -/
theorem le_alloc {γ : Gh} {g : Nat → Nat} {w : World} (o : Obj) (ow : Own) (box' : Nat → Option Nat) (fam' : Nat → Option (Nat × Nat))
    (hb : ∀ id b, γ.box id = some b → box' id = some b) (hf : ∀ τ b base, γ.fam τ = some (b, base) → fam' τ = some (b, base)) :
    Le ⟨γ, g, w⟩ ⟨{ box := box', owner := fun b' => if b' = w.heap.size then ow else γ.owner b', fam := fam', top := γ.top }, g, w.alloc o⟩ where
  box := hb
  gens _ := Nat.le_refl _
  size := by simp
  other b h ho := ⟨(if_neg (Nat.ne_of_lt h)).trans ho, heap_old w o h⟩
  fam τ b base _ h1 h2 h3 := ⟨hf τ b base h1, (if_neg (Nat.ne_of_lt h3)).trans h2, heap_old w o h3⟩
  top := Nat.le_refl _
  still := ⟨rfl, rfl⟩

end Go.Ev
