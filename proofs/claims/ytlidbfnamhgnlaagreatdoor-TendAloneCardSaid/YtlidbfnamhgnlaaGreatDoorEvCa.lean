/- Calls by their modes: a function that only reads is met by an equation that knows of no memory. -/
import Derived.Test.YtlidbfnamhgnlaaGreatDoorEvZc
namespace Go.Ev
open Go

/-! ### lists, element by element -/

theorem All2.append {α β : Type} {R : α → β → Prop} {xs : List α} {ys : List β} (h : All2 R xs ys) {xs' : List α} {ys' : List β} (h' : All2 R xs' ys') : All2 R (xs ++ xs') (ys ++ ys') := by
  induction h with
  | nil => exact h'
  | cons h _ ih => exact .cons h ih

theorem All2.flat {R : AV → AV → Prop} (hR : ∀ x y, R x y → All2 R x.cells y.cells) {xs ys : List AV} (h : All2 R xs ys) : All2 R (flat xs) (flat ys) := by
  induction h with
  | nil => exact .nil
  | cons h _ ih => exact (hR _ _ h).append ih

/-! ### a list that is only read -/

/-- A list that is only read, of elements of a size; an empty one has none. -/
def L (sz : Nat) (xs : List AV) : AV := .sl .ro (if xs.isEmpty then 0 else sz) xs

mutual
/-- What is told of a value when all memory that it leads to, of numbers from `n` on, is written no more. -/
def froz (n : Nat) (g : Nat → Nat) : AV → Option AV
  | .bool b => some (.bool b)
  | .int k m => some (.int k m)
  | .str s => some (.str s)
  | .nilp => some .nilp
  | .nilf => some .nilf
  | .nili => some .nili
  | .sl .nil _ xs => if xs.isEmpty then some (L 0 []) else none
  | .sl .ro s xs => (frozs n g xs).map (L s)
  | .sl (.fam τ g0 _) s xs => if g τ == g0 && decide (n ≤ τ) then (frozs n g xs).map (L s) else none
  | .agg xs => (frozs n g xs).map .agg
  | .tup xs => (frozs n g xs).map .tup
  | .fn f xs => (frozs n g xs).map (.fn f)
  | .ifc t x => (froz n g x).map (.ifc t)
  | .junk => none
  | .ptr _ _ => none
  | .ept _ _ _ _ _ => none
  | .it _ => none
def frozs (n : Nat) (g : Nat → Nat) : List AV → Option (List AV)
  | [] => some []
  | x :: xs => match froz n g x, frozs n g xs with
    | some y, some ys => some (y :: ys)
    | _, _ => none
end

def Froz (n : Nat) (g : Nat → Nat) (x y : AV) : Prop := froz n g x = some y

theorem frozs_all2 {n : Nat} {g : Nat → Nat} : ∀ {xs ys : List AV}, frozs n g xs = some ys → All2 (Froz n g) xs ys := by
  intro xs
  induction xs with
  | nil => intro ys h; simp [frozs] at h; subst h; exact .nil
  | cons x xs ih =>
    intro ys h
    simp only [frozs] at h
    split at h
    · rename_i y zs h1 h2
      cases h
      exact .cons h1 (ih h2)
    · cases h

theorem froz_cells {n : Nat} {g : Nat → Nat} {x y : AV} (h : Froz n g x y) : All2 (Froz n g) x.cells y.cells := by
  have one : ∀ {x y : AV}, Froz n g x y → x.cells = [x] → y.cells = [y] → All2 (Froz n g) x.cells y.cells := fun h h1 h2 => by rw [h1, h2]; exact .cons h .nil
  have h0 := h
  unfold Froz at h
  cases x with
  | agg xs =>
    simp only [froz, Option.map_eq_some_iff] at h
    obtain ⟨ys, h1, rfl⟩ := h
    exact frozs_all2 h1
  | sl c s xs =>
    cases c with
    | ro =>
      simp only [froz, Option.map_eq_some_iff] at h
      obtain ⟨ys, h1, rfl⟩ := h
      exact one h0 rfl rfl
    | nil =>
      simp only [froz] at h
      split at h
      · cases h; exact one h0 rfl rfl
      · cases h
    | fam τ g0 o =>
      simp only [froz] at h
      split at h
      · simp only [Option.map_eq_some_iff] at h
        obtain ⟨ys, h1, rfl⟩ := h
        exact one h0 rfl rfl
      · cases h
  | tup xs =>
    simp only [froz, Option.map_eq_some_iff] at h
    obtain ⟨ys, h1, rfl⟩ := h
    exact one h0 rfl rfl
  | fn f xs =>
    simp only [froz, Option.map_eq_some_iff] at h
    obtain ⟨ys, h1, rfl⟩ := h
    exact one h0 rfl rfl
  | ifc t x =>
    simp only [froz, Option.map_eq_some_iff] at h
    obtain ⟨ys, h1, rfl⟩ := h
    exact one h0 rfl rfl
  | bool b => cases h; exact one h0 rfl rfl
  | int k m => cases h; exact one h0 rfl rfl
  | str s => cases h; exact one h0 rfl rfl
  | nilp => cases h; exact one h0 rfl rfl
  | nilf => cases h; exact one h0 rfl rfl
  | nili => cases h; exact one h0 rfl rfl
  | junk => cases h
  | ptr => cases h
  | ept => cases h
  | it => cases h

theorem froz_scalar {n : Nat} {g : Nat → Nat} {x y : AV} (h : Froz n g x y) : scalar y = scalar x := by
  unfold Froz at h
  cases x with
  | sl c s xs =>
    cases c with
    | ro => simp only [froz, Option.map_eq_some_iff] at h; obtain ⟨ys, h1, rfl⟩ := h; rfl
    | nil =>
      simp only [froz] at h
      split at h
      · cases h; rfl
      · cases h
    | fam τ g0 o =>
      simp only [froz] at h
      split at h
      · simp only [Option.map_eq_some_iff] at h
        obtain ⟨ys, h1, rfl⟩ := h
        rfl
      · cases h
  | agg xs | tup xs | fn f xs | ifc t x => simp only [froz, Option.map_eq_some_iff] at h; obtain ⟨ys, h1, rfl⟩ := h; rfl
  | bool b | int k m | str s | nilp | nilf | nili => cases h; rfl
  | junk | ptr | ept | it => cases h

theorem all2_scalar {n : Nat} {g : Nat → Nat} {xs ys : List AV} (h : All2 (Froz n g) xs ys) : ys.all scalar = xs.all scalar := by
  induction h with
  | nil => rfl
  | cons h _ ih => simp [froz_scalar h, ih]

theorem all2_wf {n : Nat} {g : Nat → Nat} {sz : Nat} {xs ys : List AV} (h : All2 (Froz n g) xs ys) (hw : Wf sz xs) : Wf sz ys := by
  induction h with
  | nil => exact hw
  | cons h _ ih =>
    rename_i x y xs ys _
    intro z hz
    rcases List.mem_cons.1 hz with rfl | hz
    · have h1 := froz_cells h
      obtain ⟨h2, h3⟩ := hw x (by simp)
      refine ⟨by rw [← h1.length, h2], ?_⟩
      unfold okCells at *
      rw [all2_scalar h1, h3]
    · exact ih (fun z hz => hw z (by simp [hz])) z hz

theorem relV_L {Y : Ctx} {sz : Nat} {xs : List AV} {u : Value} (h : RelV Y (.sl .ro sz xs) u) : RelV Y (L sz xs) u := by
  unfold L
  cases xs with
  | nil => cases h with
    | slro0 _ a m => exact .slro0 _ a m
    | slro _ _ b off m _ _ _ _ _ _ _ => exact .slro0 _ _ m
  | cons x xs => exact h

/-- A value told as one that is only read. -/
theorem froz_rel {γ γ' : Gh} {n : Nat} {g g' : Nat → Nat} {w : World} (ho : ∀ b, γ.owner b = .other → γ'.owner b = .other) (hf : ∀ b τ, n ≤ τ → τ < γ.top → γ.owner b = .fam τ → γ'.owner b = .other) {x : AV} {u : Value} (h : RelV ⟨γ, g, w⟩ x u) :
    ∀ {y : AV}, froz n g x = some y → RelV ⟨γ', g', w⟩ y u := by
  induction h with
  | junk => intro y h; cases h
  | bool b => intro y h; cases h; exact .bool b
  | int k m => intro y h; cases h; exact .int k m
  | str s => intro y h; cases h; exact .str s
  | slnil sz => intro y h; simp [froz] at h; subst h; exact relV_L (.slro0 _ _ _)
  | slro0 sz a m =>
    intro y h
    simp [froz, frozs] at h; subst h; exact relV_L (.slro0 _ _ _)
  | slro sz xs b off m vals hw hm hoo hb hc hr ih =>
    intro y h
    simp only [froz, Option.map_eq_some_iff] at h
    obtain ⟨ys, h1, rfl⟩ := h
    have h2 := frozs_all2 h1
    have h3 := h2.flat (fun _ _ => froz_cells)
    have := RelV.slro (X := ⟨γ', g', w⟩) sz ys b off m vals (all2_wf h2 hw) (by rw [← h2.length]; exact hm) (ho b hoo) hb (fun i hi => hc i (by rw [h3.length]; exact hi))
      (fun i hi => ih i (by rw [h3.length]; exact hi) (h3.get i _ hi))
    rw [← h2.length] at this
    exact relV_L this
  | slstale τ g0 o sz xs a m hg hm ha ht =>
    intro y h
    have hg' : g0 < g τ := hg
    simp only [froz] at h
    split at h
    · rename_i hc
      simp at hc; omega
    · cases h
  | slfam0 τ g0 o sz a hg ht =>
    intro y h
    simp only [froz, frozs] at h
    split at h
    · simp at h; subst h; exact relV_L (.slro0 _ _ _)
    · cases h
  | slfam τ g0 o sz xs b base m vals hg hff hoo hb hw hm hroom hfr hc hr ht ih =>
    intro y h
    simp only [froz] at h
    split at h
    · rename_i hcond
      simp only [Bool.and_eq_true, decide_eq_true_eq] at hcond
      simp only [Option.map_eq_some_iff] at h
      obtain ⟨ys, h1, rfl⟩ := h
      have h2 := frozs_all2 h1
      have h3 := h2.flat (fun _ _ => froz_cells)
      have := RelV.slro (X := ⟨γ', g', w⟩) sz ys b (base + o * sz) m vals (all2_wf h2 hw) (by rw [← h2.length]; exact hm) (hf b τ hcond.2 ht hoo) hb (fun i hi => hc i (by rw [h3.length]; exact hi))
        (fun i hi => ih i (by rw [h3.length]; exact hi) (h3.get i _ hi))
      rw [← h2.length] at this
      exact relV_L this
    · cases h
  | agg cs vs hl hr ih =>
    intro y h
    simp only [froz, Option.map_eq_some_iff] at h
    obtain ⟨ys, h1, rfl⟩ := h
    have h2 := frozs_all2 h1
    exact .agg ys vs (by rw [← h2.length]; exact hl) (fun i hi => ih i (by rw [h2.length]; exact hi) (h2.get i _ hi))
  | ptr => intro y h; cases h
  | nilp => intro y h; cases h; exact .nilp
  | ept => intro y h; cases h
  | fn f cs vs hl hr ih =>
    intro y h
    simp only [froz, Option.map_eq_some_iff] at h
    obtain ⟨ys, h1, rfl⟩ := h
    have h2 := frozs_all2 h1
    exact .fn f ys vs (by rw [← h2.length]; exact hl) (fun i hi => ih i (by rw [h2.length]; exact hi) (h2.get i _ hi))
  | nilf => intro y h; cases h; exact .nilf
  | ifc t x v _ ih =>
    intro y h
    simp only [froz, Option.map_eq_some_iff] at h
    obtain ⟨z, h1, rfl⟩ := h
    exact .ifc t z v (ih h1)
  | nili => intro y h; cases h; exact .nili
  | tup cs vs hl hr ih =>
    intro y h
    simp only [froz, Option.map_eq_some_iff] at h
    obtain ⟨ys, h1, rfl⟩ := h
    have h2 := frozs_all2 h1
    exact .tup ys vs (by rw [← h2.length]; exact hl) (fun i hi => ih i (by rw [h2.length]; exact hi) (h2.get i _ hi))
  | it => intro y h; cases h

/-! ### values whose memory is all new -/

mutual
/-- It leads to no memory, but to families' memory. -/
def fresh : AV → Bool
  | .bool _ => true
  | .int _ _ => true
  | .str _ => true
  | .nilp => true
  | .nilf => true
  | .nili => true
  | .sl .ro _ xs => xs.isEmpty
  | .sl .nil _ _ => true
  | .sl (.fam _ _ _) _ xs => freshs xs
  | .agg xs => freshs xs
  | .tup xs => freshs xs
  | .fn _ xs => freshs xs
  | .ifc _ x => fresh x
  | .junk => false
  | .ptr _ _ => false
  | .ept _ _ _ _ _ => false
  | .it _ => false
def freshs : List AV → Bool
  | [] => true
  | x :: xs => fresh x && freshs xs
end

theorem freshs_all {xs : List AV} (h : freshs xs = true) : ∀ x ∈ xs, fresh x = true := by
  induction xs with
  | nil => intro x hx; simp at hx
  | cons y ys ih =>
    simp only [freshs, Bool.and_eq_true] at h
    intro x hx
    rcases List.mem_cons.1 hx with rfl | hx
    · exact h.1
    · exact ih h.2 x hx

theorem fresh_cells {x : AV} (h : fresh x = true) : ∀ y ∈ x.cells, fresh y = true := by
  cases x with
  | agg xs => exact freshs_all h
  | _ => intro y hy; simp [AV.cells] at hy; subst hy; exact h

theorem fresh_flat {xs : List AV} (h : freshs xs = true) : ∀ i (hi : i < (flat xs).length), fresh (flat xs)[i] = true := by
  intro i hi
  have := List.getElem_mem hi
  simp only [flat, List.mem_flatMap] at this
  obtain ⟨x, hx, hy⟩ := this
  exact fresh_cells (freshs_all h x hx) _ hy

/-- A value whose memory is all new, told as one that is only read. -/
theorem fresh_rel {γ γ' : Gh} {n : Nat} {g g' : Nat → Nat} {w : World} (hf : ∀ b τ, γ.owner b = .fam τ → γ'.owner b = .other) {x : AV} {u : Value} (h : RelV ⟨γ, g, w⟩ x u) :
    ∀ {y : AV}, fresh x = true → froz n g x = some y → RelV ⟨γ', g', w⟩ y u := by
  induction h with
  | junk => intro y _ h; cases h
  | bool b => intro y _ h; cases h; exact .bool b
  | int k m => intro y _ h; cases h; exact .int k m
  | str s => intro y _ h; cases h; exact .str s
  | slnil sz => intro y _ h; simp [froz] at h; subst h; exact relV_L (.slro0 _ _ _)
  | slro0 sz a m =>
    intro y _ h
    simp [froz, frozs] at h; subst h; exact relV_L (.slro0 _ _ _)
  | slro sz xs b off m vals hw hm hoo hb hc hr ih =>
    intro y hfr h
    simp only [fresh, List.isEmpty_iff] at hfr
    subst hfr
    simp [froz, frozs] at h; subst h; exact relV_L (.slro0 _ _ _)
  | slstale τ g0 o sz xs a m hg hm ha ht =>
    intro y _ h
    have hg' : g0 < g τ := hg
    simp only [froz] at h
    split at h
    · rename_i hc
      simp at hc; omega
    · cases h
  | slfam0 τ g0 o sz a hg ht =>
    intro y _ h
    simp only [froz, frozs] at h
    split at h
    · simp at h; subst h; exact relV_L (.slro0 _ _ _)
    · cases h
  | slfam τ g0 o sz xs b base m vals hg hff hoo hb hw hm hroom hfr hc hr ht ih =>
    intro y hfs h
    simp only [froz] at h
    split at h
    · simp only [Option.map_eq_some_iff] at h
      obtain ⟨ys, h1, rfl⟩ := h
      have h2 := frozs_all2 h1
      have h3 := h2.flat (fun _ _ => froz_cells)
      have := RelV.slro (X := ⟨γ', g', w⟩) sz ys b (base + o * sz) m vals (all2_wf h2 hw) (by rw [← h2.length]; exact hm) (hf b τ hoo) hb (fun i hi => hc i (by rw [h3.length]; exact hi))
        (fun i hi => ih i (by rw [h3.length]; exact hi) (fresh_flat hfs i _) (h3.get i _ hi))
      rw [← h2.length] at this
      exact relV_L this
    · cases h
  | agg cs vs hl hr ih =>
    intro y hfs h
    simp only [froz, Option.map_eq_some_iff] at h
    obtain ⟨ys, h1, rfl⟩ := h
    have h2 := frozs_all2 h1
    exact .agg ys vs (by rw [← h2.length]; exact hl) (fun i hi => ih i (by rw [h2.length]; exact hi) (freshs_all hfs _ (List.getElem_mem _)) (h2.get i _ hi))
  | ptr => intro y _ h; cases h
  | nilp => intro y _ h; cases h; exact .nilp
  | ept => intro y _ h; cases h
  | fn f cs vs hl hr ih =>
    intro y hfs h
    simp only [froz, Option.map_eq_some_iff] at h
    obtain ⟨ys, h1, rfl⟩ := h
    have h2 := frozs_all2 h1
    exact .fn f ys vs (by rw [← h2.length]; exact hl) (fun i hi => ih i (by rw [h2.length]; exact hi) (freshs_all hfs _ (List.getElem_mem _)) (h2.get i _ hi))
  | nilf => intro y _ h; cases h; exact .nilf
  | ifc t x v _ ih =>
    intro y hfs h
    simp only [froz, Option.map_eq_some_iff] at h
    obtain ⟨z, h1, rfl⟩ := h
    exact .ifc t z v (ih hfs h1)
  | nili => intro y _ h; cases h; exact .nili
  | tup cs vs hl hr ih =>
    intro y hfs h
    simp only [froz, Option.map_eq_some_iff] at h
    obtain ⟨ys, h1, rfl⟩ := h
    have h2 := frozs_all2 h1
    exact .tup ys vs (by rw [← h2.length]; exact hl) (fun i hi => ih i (by rw [h2.length]; exact hi) (freshs_all hfs _ (List.getElem_mem _)) (h2.get i _ hi))
  | it => intro y _ h; cases h

/-! ### what a call comes to -/

/-- A call that was met with what its arguments are when they are only read. -/
theorem CallOk.read {P : Program} {f : Nat} {args bargs : List AV} {st st1 : St} {v : AV} (h : CallOk P f bargs st v st1) (hb : frozs st.next st.gens args = some bargs) : CallOk P f args st v st1 := by
  have h2 := frozs_all2 hb
  refine ⟨h.1, fun γ w vs hS hl hr => h.2 γ w vs hS (by rw [← h2.length]; exact hl) (fun i hi => ?_)⟩
  have hi' : i < args.length := by rw [h2.length]; exact hi
  refine froz_rel (γ := γ) (g := st.gens) (n := st.next) (fun _ h => h) (fun b τ hn ht ho => ?_) (hr i hi') (h2.get i hi' hi)
  have := hS.top
  omega

/-- What a call leaves behind is forgotten, but for its result, which is only read from now on. -/
theorem CallOk.frozen {P : Program} {f : Nat} {args : List AV} {st st1 : St} {v v' : AV} (h : CallOk P f args st v st1) (hk : Keeps st st1) (hv : froz st.next st1.gens v = some v') : CallOk P f args st v' st := by
  refine ⟨h.1, fun γ w vs hS hl hr => (h.2 γ w vs hS hl hr).mono ?_⟩
  rintro e w' ⟨u, γ1, rfl, hst, hu⟩
  obtain ⟨h1, _⟩ := hst.told hS [] List.nodup_nil hk
  refine ⟨u, γ1.anew st.next [], rfl, h1, froz_rel (γ := γ1) (fun b ho => by simp [Gh.anew, ho]) (fun b τ hn _ ho => by simp [Gh.anew, ho, show ¬ τ < st.next by omega]) hu hv⟩

/-- A call that only reads may be lent memory that the caller writes, if what it tells is all new. -/
theorem CallOk.lent {P : Program} {f : Nat} {args bargs : List AV} {st st1 : St} {v v' : AV} (h : CallOk P f bargs st0 v st1) (hs : fresh v = true) (hv : froz 0 st1.gens v = some v') (hb : frozs 0 st.gens args = some bargs) : CallOk P f args st v' st := by
  have h2 := frozs_all2 hb
  refine ⟨h.1, fun γ w vs hS hl hr => ?_⟩
  have h0 : RelS ⟨fun _ => none, fun _ => .other, fun _ => none, 0⟩ st0 w :=
    ⟨(fun _ _ _ h => by cases h), (fun _ _ _ _ h => by cases h), (fun _ _ h => by cases h), (fun _ _ _ h => by cases h), (fun _ _ => rfl), (fun _ _ => ⟨rfl, rfl⟩), rfl⟩
  refine (h.2 _ w vs h0 (by rw [← h2.length]; exact hl) (fun i hi => ?_)).mono ?_
  · have hi' : i < args.length := by rw [h2.length]; exact hi
    exact froz_rel (γ := γ) (g := st.gens) (n := 0) (fun _ _ => rfl) (fun _ _ _ _ _ => rfl) (hr i hi') (h2.get i hi' hi)
  rintro e w' ⟨u, γ1, rfl, hst, hu⟩
  have hsz : w.heap.size ≤ w'.heap.size := hst.le.size
  have hoth : ∀ b, b < w.heap.size → w'.heap[b]? = w.heap[b]? := fun b hb => (hst.le.other b hb rfl).2
  have hown : ∀ b, b < w.heap.size → γ1.owner b = .other := fun b hb => (hst.le.other b hb rfl).1
  have hle : Le ⟨γ, st.gens, w⟩ ⟨γ, st.gens, w'⟩ := ⟨fun _ _ h => h, fun _ => Nat.le_refl _, hsz, fun b hb ho => ⟨ho, hoth b hb⟩, fun τ b base _ hf ho hb => ⟨hf, ho, hoth b hb⟩, Nat.le_refl _, hst.le.still⟩
  refine ⟨u, γ, rfl, ⟨hle, ?_, fun _ _ => ⟨rfl, rfl, fun _ => ⟨rfl, rfl⟩⟩, Nat.le_refl _⟩, fresh_rel (γ := γ1) (fun b τ ho => ?_) hu hs hv⟩
  · exact hS.keep hle rfl rfl rfl rfl (fun b id hb ho => ⟨hoth b hb, ho⟩) (fun τ b base hf => by have := hS.inf τ b base hf; omega) (fun b hb => hS.free b (by omega))
  · by_cases hbs : b < w.heap.size
    · rw [hown b hbs] at ho; cases ho
    · exact hS.free b (by omega)

/-! ### the evaluator with modes -/

inductive Mode where
  | pure
  | raw
  | keep
  | prim (p : List AV → St → Option (AV × St))

structure Tbl where
  F : Nat → Option MF
  mode : Nat → Nat → Mode

/-- More rounds than a loop of ours has. -/
def rounds : Nat := 1000000000000

open Classical in
noncomputable def fin (st : St) (r : AV × St) : Option AV := if Keeps st r.2 then froz st.next r.2.gens r.1 else none

noncomputable def finR (st : St) (r : AV × St) : AV × St := match fin st r with
  | some v => (v, st)
  | none => r

noncomputable def reader (call : Nat → List AV → St → Option (AV × St)) (T : Tbl) (f : Nat) (args : List AV) (st : St) : Option (AV × Bool) :=
  (T.F f).bind fun mf => (evFn call rounds mf args st).bind fun r => (fin st r).map fun v => (v, fresh r.1)

noncomputable def lend (call : Nat → List AV → St → Option (AV × St)) (T : Tbl) (f : Nat) (args : List AV) (st : St) : Option (AV × St) :=
  match frozs st.next st.gens args with
  | some bargs => (reader call T f bargs st).map fun v => (v.1, st)
  | none => match frozs 0 st.gens args with
    | some bargs => (reader call T f bargs st0).bind fun v => if v.2 = true then some (v.1, st) else none
    | none => none

/-- A call: how deep, who calls, whom. -/
noncomputable def callN (T : Tbl) : Nat → Nat → Nat → List AV → St → Option (AV × St)
  | 0, _, _, _, _ => none
  | d + 1, c, f, args, st =>
    match T.mode c f with
    | .prim p => p args st
    | .raw => (T.F f).bind fun mf => (evFn (callN T d f) rounds mf args st).map (finR st)
    | .keep => (T.F f).bind fun mf => evFn (callN T d f) rounds mf args st
    | .pure => lend (callN T d f) T f args st

structure TblOk (P : Program) (T : Tbl) : Prop where
  F : ∀ f mf, T.F f = some mf → Has P f mf
  prim : ∀ c f p, T.mode c f = .prim p → okSpec P (f, p)

theorem fin_ok {P : Program} {f : Nat} {args : List AV} {st : St} {r : AV × St} {v : AV} (h : CallOk P f args st r.1 r.2) (hv : fin st r = some v) : CallOk P f args st v st := by
  unfold fin at hv
  split at hv
  · rename_i hk
    exact h.frozen hk hv
  · cases hv

theorem reader_ok {P : Program} {T : Tbl} (hT : TblOk P T) {call : Nat → List AV → St → Option (AV × St)} (hc : okCall P call) {f : Nat} {args : List AV} {st : St} {v : AV × Bool} (h : reader call T f args st = some v) :
    ∃ v1 st1, CallOk P f args st v1 st1 ∧ Keeps st st1 ∧ froz st.next st1.gens v1 = some v.1 ∧ v.2 = fresh v1 := by
  simp only [reader, Option.bind_eq_some_iff, Option.map_eq_some_iff] at h
  obtain ⟨mf, h1, r, h2, v', h3, rfl⟩ := h
  unfold fin at h3
  split at h3
  · rename_i hk
    exact ⟨r.1, r.2, evFn_ok (hT.F f mf h1) hc (v := r.1) (st1 := r.2) h2, hk, h3, rfl⟩
  · cases h3

theorem callN_ok {P : Program} {T : Tbl} (hT : TblOk P T) : ∀ d c, okCall P (callN T d c) := by
  intro d
  induction d with
  | zero => intro c f args st v st' h; simp [callN] at h
  | succ d ih =>
    intro c f args st v st' h
    simp only [callN] at h
    split at h
    · rename_i p hp
      exact hT.prim c f p hp args st v st' h
    · simp only [Option.bind_eq_some_iff, Option.map_eq_some_iff] at h
      obtain ⟨mf, h1, r, h2, h3⟩ := h
      have h4 := evFn_ok (hT.F f mf h1) (ih f) (v := r.1) (st1 := r.2) h2
      unfold finR at h3
      split at h3
      · rename_i v' hv'
        cases h3
        exact fin_ok h4 hv'
      · cases h3; exact h4
    · simp only [Option.bind_eq_some_iff] at h
      obtain ⟨mf, h1, h2⟩ := h
      exact evFn_ok (hT.F f mf h1) (ih f) h2
    · simp only [lend] at h
      split at h
      · rename_i bargs hb
        simp only [Option.map_eq_some_iff, Prod.mk.injEq] at h
        obtain ⟨v', h1, rfl, rfl⟩ := h
        obtain ⟨v1, st1, h2, h3, h4, _⟩ := reader_ok hT (ih f) h1
        exact (h2.frozen h3 h4).read hb
      · split at h
        · rename_i bargs hb
          simp only [Option.bind_eq_some_iff] at h
          obtain ⟨v', h1, h2⟩ := h
          split at h2
          · rename_i hs
            cases h2
            obtain ⟨v1, st1, h3, _, h5, h6⟩ := reader_ok hT (ih f) h1
            exact h3.lent (h6.symm.trans hs) h5 hb
          · cases h2
        · cases h

end Go.Ev
