/- The values of a small evaluator over pure data, and when such a value tells what a value of the machine is. No program in sight. -/
import Derived.Calls
namespace Go.Ev
open Go

/-- What a slice may be used for: read for ever (ro), no memory at all (nil), or the state `g` of a family `τ` of memory that the run made itself, `o` elements behind its begin. -/
inductive Cap where
  | ro | nil
  | fam (τ g o : Nat)
  deriving DecidableEq

inductive AV where
  | junk
  | bool (b : Bool)
  | int (k : IntKind) (n : Int)
  | str (s : ByteArray)
  | sl (c : Cap) (sz : Nat) (xs : List AV)
  | agg (cs : List AV)
  | ptr (id off : Nat)
  | nilp
  | ept (c : Cap) (sz : Nat) (xs : List AV) (i off : Nat)
  | fn (f : Nat) (cs : List AV)
  | nilf
  | ifc (t : TypeId) (v : AV)
  | nili
  | tup (vs : List AV)
  | it (id : Nat)

instance : Inhabited AV := ⟨.junk⟩

def AV.cells : AV → List AV
  | .agg cs => cs
  | v => [v]

def flat (xs : List AV) : List AV := xs.flatMap AV.cells

/-- One cell of the machine's. -/
def scalar : AV → Bool
  | .agg _ | .tup _ | .junk => false
  | _ => true

def okCells (x : AV) : Bool := x.cells.all scalar

def Wf (sz : Nat) (xs : List AV) : Prop := ∀ x ∈ xs, x.cells.length = sz ∧ okCells x = true

/-- Whose a block is. -/
inductive Own where
  | other
  | box (id : Nat)
  | fam (τ : Nat)
  deriving DecidableEq

structure Gh where
  box : Nat → Option Nat
  owner : Nat → Own
  fam : Nat → Option (Nat × Nat)
  top : Nat

structure Ctx where
  γ : Gh
  gens : Nat → Nat
  w : World

inductive RelV (X : Ctx) : AV → Value → Prop where
  | junk : RelV X .junk undef
  | bool (b : Bool) : RelV X (.bool b) (.bool b)
  | int (k : IntKind) (n : Int) : RelV X (.int k n) (.int k n)
  | str (s : ByteArray) : RelV X (.str s) (.string s)
  | slnil (sz : Nat) : RelV X (.sl .nil sz []) (.slice none 0 0)
  | slro0 (sz : Nat) (a : Option Addr) (m : Nat) : RelV X (.sl .ro sz []) (.slice a 0 m)
  | slro (sz : Nat) (xs : List AV) (b off m : Nat) (vals : Nat → Value) (hw : Wf sz xs) (hm : xs.length ≤ m) (ho : X.γ.owner b = .other) (hb : b < X.w.heap.size)
      (hc : ∀ i, i < (flat xs).length → X.w.cell? ⟨b, off + i, none⟩ = some (vals i)) (hr : ∀ i (h : i < (flat xs).length), RelV X ((flat xs)[i]) (vals i)) :
      RelV X (.sl .ro sz xs) (.slice (some ⟨b, off, none⟩) xs.length m)
  | slstale (τ g o sz : Nat) (xs : List AV) (a : Option Addr) (m : Nat) (hg : g < X.gens τ) (hm : xs.length ≤ m) (ha : xs ≠ [] → ∃ b off, a = some ⟨b, off, none⟩) (ht : τ < X.γ.top) :
      RelV X (.sl (.fam τ g o) sz xs) (.slice a xs.length m)
  | slfam0 (τ g o sz : Nat) (a : Option Addr) (hg : X.gens τ = g) (ht : τ < X.γ.top) : RelV X (.sl (.fam τ g o) sz []) (.slice a 0 0)
  | slfam (τ g o sz : Nat) (xs : List AV) (b base m : Nat) (vals : Nat → Value) (hg : X.gens τ = g) (hf : X.γ.fam τ = some (b, base)) (ho : X.γ.owner b = .fam τ)
      (hb : b < X.w.heap.size) (hw : Wf sz xs) (hm : xs.length ≤ m) (hroom : ∀ i, i < m * sz → (X.w.cell? ⟨b, base + o * sz + i, none⟩).isSome = true)
      (hfr : ∀ i, i < m * sz → X.w.frozen? ⟨b, base + o * sz + i, none⟩ = false)
      (hc : ∀ i, i < (flat xs).length → X.w.cell? ⟨b, base + o * sz + i, none⟩ = some (vals i)) (hr : ∀ i (h : i < (flat xs).length), RelV X ((flat xs)[i]) (vals i)) (ht : τ < X.γ.top) :
      RelV X (.sl (.fam τ g o) sz xs) (.slice (some ⟨b, base + o * sz, none⟩) xs.length m)
  | agg (cs : List AV) (vs : Array Value) (hl : cs.length = vs.size) (hr : ∀ i (h : i < cs.length), RelV X cs[i] (vs.getD i undef)) : RelV X (.agg cs) (.agg vs)
  | ptr (id off b : Nat) (hb : X.γ.box id = some b) : RelV X (.ptr id off) (.pointer (some ⟨b, off, none⟩))
  | nilp : RelV X .nilp (.pointer none)
  | ept (c : Cap) (sz : Nat) (xs : List AV) (i off : Nat) (a : Addr) (n m : Nat) (hs : RelV X (.sl c sz xs) (.slice (some a) n m)) (hi : i < xs.length) :
      RelV X (.ept c sz xs i off) (.pointer (some (a.add (i * sz + off))))
  | fn (f : Nat) (cs : List AV) (vs : Array Value) (hl : cs.length = vs.size) (hr : ∀ i (h : i < cs.length), RelV X cs[i] (vs.getD i undef)) :
      RelV X (.fn f cs) (.func (.func f) #[] vs)
  | nilf : RelV X .nilf .nilFunc
  | ifc (t : TypeId) (x : AV) (v : Value) (h : RelV X x v) : RelV X (.ifc t x) (.iface t v)
  | nili : RelV X .nili .nilIface
  | tup (cs : List AV) (vs : Array Value) (hl : cs.length = vs.size) (hr : ∀ i (h : i < cs.length), RelV X cs[i] (vs.getD i undef)) : RelV X (.tup cs) (.tuple vs)
  | it (id b : Nat) (hb : X.γ.box id = some b) : RelV X (.it id) (.pointer (some ⟨b, 0, none⟩))

/-- Nothing that a reader of the whole world asks beside the blocks has turned. -/
structure Still (w w' : World) : Prop where
  os : w'.os = w.os
  output : w'.output = w.output

theorem Still.refl (w : World) : Still w w := ⟨rfl, rfl⟩

theorem Still.trans {w w' w'' : World} (h : Still w w') (k : Still w' w'') : Still w w'' :=
  ⟨k.os.trans h.os, k.output.trans h.output⟩

/-- Later: what was told stays told. -/
structure Le (X Y : Ctx) : Prop where
  box : ∀ id b, X.γ.box id = some b → Y.γ.box id = some b
  gens : ∀ τ, X.gens τ ≤ Y.gens τ
  size : X.w.heap.size ≤ Y.w.heap.size
  other : ∀ b, b < X.w.heap.size → X.γ.owner b = .other → Y.γ.owner b = .other ∧ Y.w.heap[b]? = X.w.heap[b]?
  fam : ∀ τ b base, Y.gens τ = X.gens τ → X.γ.fam τ = some (b, base) → X.γ.owner b = .fam τ → b < X.w.heap.size →
    Y.γ.fam τ = some (b, base) ∧ Y.γ.owner b = .fam τ ∧ Y.w.heap[b]? = X.w.heap[b]?
  top : X.γ.top ≤ Y.γ.top
  still : Still X.w Y.w

theorem Le.refl (X : Ctx) : Le X X :=
  ⟨fun _ _ h => h, fun _ => Nat.le_refl _, Nat.le_refl _, fun _ _ h => ⟨h, rfl⟩, fun _ _ _ _ h1 h2 _ => ⟨h1, h2, rfl⟩, Nat.le_refl _, .refl _⟩

theorem Le.trans {X Y Z : Ctx} (h : Le X Y) (k : Le Y Z) : Le X Z where
  box id b hb := k.box id b (h.box id b hb)
  gens τ := Nat.le_trans (h.gens τ) (k.gens τ)
  size := Nat.le_trans h.size k.size
  other b hb ho := by
    obtain ⟨h1, h2⟩ := h.other b hb ho
    obtain ⟨k1, k2⟩ := k.other b (Nat.lt_of_lt_of_le hb h.size) h1
    exact ⟨k1, k2.trans h2⟩
  fam τ b base hg hf ho hb := by
    have e : Y.gens τ = X.gens τ := Nat.le_antisymm (hg ▸ k.gens τ) (h.gens τ)
    obtain ⟨h1, h2, h3⟩ := h.fam τ b base e hf ho hb
    obtain ⟨k1, k2, k3⟩ := k.fam τ b base (hg.trans e.symm) h1 h2 (Nat.lt_of_lt_of_le hb h.size)
    exact ⟨k1, k2, k3.trans h3⟩
  top := Nat.le_trans h.top k.top
  still := h.still.trans k.still

theorem cell?_of_block {w w' : World} {b : Nat} (h : w'.heap[b]? = w.heap[b]?) (off : Nat) (sp : Option Nat) : w'.cell? ⟨b, off, sp⟩ = w.cell? ⟨b, off, sp⟩ := by
  simp [World.cell?, h]

theorem frozen?_of_block {w w' : World} {b : Nat} (h : w'.heap[b]? = w.heap[b]?) (off : Nat) (sp : Option Nat) : w'.frozen? ⟨b, off, sp⟩ = w.frozen? ⟨b, off, sp⟩ := by
  simp [World.frozen?, h]

theorem RelV.mono {X Y : Ctx} (h : Le X Y) {x : AV} {v : Value} (r : RelV X x v) : RelV Y x v := by
  induction r with
  | junk => exact .junk
  | bool b => exact .bool b
  | int k n => exact .int k n
  | str s => exact .str s
  | slnil sz => exact .slnil sz
  | slro0 sz a m => exact .slro0 sz a m
  | slro sz xs b off m vals hw hm ho hb hc hr ih =>
    obtain ⟨h1, h2⟩ := h.other b hb ho
    exact .slro sz xs b off m vals hw hm h1 (Nat.lt_of_lt_of_le hb h.size) (fun i hi => (cell?_of_block h2 _ _).trans (hc i hi)) ih
  | slstale τ g o sz xs a m hg hm ha ht => exact .slstale τ g o sz xs a m (Nat.lt_of_lt_of_le hg (h.gens τ)) hm ha (Nat.lt_of_lt_of_le ht h.top)
  | slfam0 τ g o sz a hg ht =>
    have ht' := Nat.lt_of_lt_of_le ht h.top
    by_cases e : Y.gens τ = g
    · exact .slfam0 τ g o sz a e ht'
    · have := h.gens τ; exact .slstale τ g o sz [] a 0 (by omega) (Nat.le_refl _) (fun h => absurd rfl h) ht'
  | slfam τ g o sz xs b base m vals hg hf ho hb hw hm hroom hfr hc hr ht ih =>
    have ht' := Nat.lt_of_lt_of_le ht h.top
    by_cases e : Y.gens τ = g
    · obtain ⟨h1, h2, h3⟩ := h.fam τ b base (by omega) hf ho hb
      exact .slfam τ g o sz xs b base m vals e h1 h2 (Nat.lt_of_lt_of_le hb h.size) hw hm (fun i hi => by rw [cell?_of_block h3]; exact hroom i hi)
        (fun i hi => by rw [frozen?_of_block h3]; exact hfr i hi) (fun i hi => (cell?_of_block h3 _ _).trans (hc i hi)) ih ht'
    · have := h.gens τ; exact .slstale τ g o sz xs _ m (by omega) hm (fun _ => ⟨_, _, rfl⟩) ht'
  | agg cs vs hl hr ih => exact .agg cs vs hl ih
  | ptr id off b hb => exact .ptr id off b (h.box id b hb)
  | nilp => exact .nilp
  | ept c sz xs i off a n m hs hi ih => exact .ept c sz xs i off a n m ih hi
  | fn f cs vs hl hr ih => exact .fn f cs vs hl ih
  | nilf => exact .nilf
  | ifc t x v _ ih => exact .ifc t x v ih
  | nili => exact .nili
  | tup cs vs hl hr ih => exact .tup cs vs hl ih
  | it id b hb => exact .it id b (h.box id b hb)

/-- The evaluator's own state. -/
structure St where
  next : Nat
  boxes : Nat → Option (List AV)
  iters : Nat → Option (ByteArray × Nat)
  gens : Nat → Nat

structure RelS (γ : Gh) (st : St) (w : World) : Prop where
  box : ∀ id cs b, st.boxes id = some cs → γ.box id = some b → γ.owner b = .box id ∧ ∃ vs e, w.heap[b]? = some (.cells vs e (0, 0)) ∧ cs.length = vs.size ∧
    ∀ i (h : i < cs.length), RelV ⟨γ, st.gens, w⟩ cs[i] (vs.getD i undef)
  iter : ∀ id s p b, st.iters id = some (s, p) → γ.box id = some b → γ.owner b = .box id ∧ w.heap[b]? = some (.stringIter s p)
  inb : ∀ id b, γ.box id = some b → b < w.heap.size ∧ id < st.next
  inf : ∀ τ b base, γ.fam τ = some (b, base) → b < w.heap.size ∧ τ < st.next
  free : ∀ b, w.heap.size ≤ b → γ.owner b = .other
  new : ∀ id, st.next ≤ id → st.boxes id = none ∧ st.iters id = none
  top : γ.top = st.next

end Go.Ev
