/- What a law's arguments are when the call begins: typed data that are only read. -/
import Derived.Test.YtlidbfnamhgnlaaGreatDoorEvCb
import Derived.Deep.Slices
namespace Go.Ev
open Go
open Enc (av)

/-- The parts of a struct, one behind the other. -/
def FitS (P : Program) (r : TypeId → List AV → Prop) : List Field → List AV → Prop
  | [], xs => xs = []
  | f :: fs, xs => ∃ a b, xs = a ++ b ∧ r f.type a ∧ a.length = P.cellsOf f.type ∧ FitS P r fs b

/-- A value's cells, as their type has them: whole numbers, truths, texts, lists, structs. -/
def Fit (P : Program) : Nat → TypeId → List AV → Prop
  | 0, _, _ => False
  | n + 1, t, xs =>
    match P.underlying t with
    | some .bool => ∃ b, xs = [.bool b]
    | some (.int k) => ∃ m, xs = [.int k m] ∧ (Lit.int k m).wf = true
    | some .string => ∃ s, xs = [.str s] ∧ s.size ≤ maxLen
    | some (.slice e) => ∃ ys : List AV, xs = [L (P.cellsOf e) ys] ∧ ys.length ≤ maxLen ∧ ∀ y ∈ ys, Fit P n e y.cells ∧
        (match P.underlying e with | some (.struct _) => ∃ cs, y = .agg cs | _ => y.cells = [y])
    | some (.struct fs) => FitS P (Fit P n) fs.toList xs
    | _ => False

/-- The fields lie one behind the other. -/
def coversAll (P : Program) : List Field → Nat → Nat → Bool
  | [], o, n => o == n
  | f :: fs, o, n => f.offset == o && coversAll P fs (o + P.cellsOf f.type) n

/-- The types of a law's arguments, and of their parts. -/
def supOf (P : Program) (S : List TypeId) (t : TypeId) : Bool :=
  match P.underlying t with
  | some .bool | some (.int _) | some .string => P.cellsOf t == 1
  | some (.slice e) => P.cellsOf t == 1 && S.contains e && decide (0 < P.cellsOf e)
  | some (.struct fs) => fs.toList.all (fun f => S.contains f.type) && coversAll P fs.toList 0 (P.cellsOf t)
  | _ => false

theorem coversAll_le {P : Program} {n : Nat} : ∀ (fs : List Field) (o : Nat), coversAll P fs o n = true → o ≤ n := by
  intro fs
  induction fs with
  | nil => intro o h; simp [coversAll] at h; omega
  | cons f fs ih =>
    intro o h
    simp only [coversAll, Bool.and_eq_true] at h
    have := ih _ h.2
    omega

/-- The fields' cells are the struct's, one behind the other. -/
theorem covers_all2 {P : Program} {R : AV → Value → Prop} {r : TypeId → List AV → Prop} {cs : List Value} {n : Nat} (hl : cs.length = n) : ∀ (fs : List Field) (o : Nat), coversAll P fs o n = true →
    (∀ f ∈ fs, f.offset + P.cellsOf f.type ≤ n → ∃ xs, All2 R xs ((cs.drop f.offset).take (P.cellsOf f.type)) ∧ r f.type xs) → ∃ xs, All2 R xs (cs.drop o) ∧ FitS P r fs xs := by
  intro fs
  induction fs with
  | nil =>
    intro o h _
    simp [coversAll] at h
    exact ⟨[], by rw [List.drop_eq_nil_of_le (by omega)]; exact .nil, rfl⟩
  | cons f fs ih =>
    intro o h hf
    simp only [coversAll, Bool.and_eq_true, beq_iff_eq] at h
    obtain ⟨rfl, h2⟩ := h
    have hle := coversAll_le _ _ h2
    obtain ⟨xs, h3, h4⟩ := ih _ h2 (fun g hg hgl => hf g (by simp [hg]) hgl)
    obtain ⟨a, h5, h6⟩ := hf f (by simp) hle
    have h7 := h5.append h3
    rw [show cs.drop (f.offset + P.cellsOf f.type) = (cs.drop f.offset).drop (P.cellsOf f.type) by rw [List.drop_drop], List.take_append_drop] at h7
    refine ⟨a ++ xs, h7, a, xs, rfl, h6, ?_, h4⟩
    rw [h5.length]; simp; omega

theorem all2_relV_agg {X : Ctx} {xs : List AV} {cs : List Value} (h : All2 (RelV X) xs cs) : RelV X (.agg xs) (.agg cs.toArray) :=
  .agg xs _ (by simpa using h.length) (fun i hi => by
    have hi' : i < cs.length := by rw [← h.length]; exact hi
    have := h.get i hi hi'
    simpa [Array.getD_eq_getD_getElem?, hi'] using this)

theorem all2_of {R : AV → Value → Prop} : ∀ {xs : List AV} {cs : List Value}, xs.length = cs.length → (∀ i (h1 : i < xs.length) (h2 : i < cs.length), R xs[i] cs[i]) → All2 R xs cs := by
  intro xs
  induction xs with
  | nil => intro cs h _; simp at h; obtain rfl : cs = [] := List.length_eq_zero_iff.1 h.symm; exact .nil
  | cons x xs ih =>
    intro cs h hR
    cases cs with
    | nil => simp at h
    | cons c cs => exact .cons (hR 0 (by simp) (by simp)) (ih (by simpa using h) (fun i h1 h2 => hR (i + 1) (by simpa using h1) (by simpa using h2)))

theorem fit_scalar {P : Program} : ∀ (n : Nat) (t : TypeId) (xs : List AV), Fit P n t xs → xs.all scalar = true := by
  intro n
  induction n with
  | zero => intro t xs h; exact h.elim
  | succ n ih =>
    intro t xs h
    unfold Fit at h
    split at h
    · obtain ⟨b, rfl⟩ := h; rfl
    · obtain ⟨m, rfl, _⟩ := h; rfl
    · obtain ⟨s, rfl, _⟩ := h; rfl
    · obtain ⟨ys, rfl, _⟩ := h; rfl
    · rename_i fs _
      generalize fs.toList = l at h
      induction l generalizing xs with
      | nil => cases h; rfl
      | cons f l ihl =>
        obtain ⟨a, b, rfl, h1, _, h3⟩ := h
        simp [List.all_append, ih _ _ h1, ihl _ h3]
    · exact h.elim

theorem fit_cells1 {P : Program} {n : Nat} {t : TypeId} {xs : List AV} (h : Fit P n t xs) (hns : ∀ fs, P.underlying t ≠ some (.struct fs)) : ∃ y, xs = [y] ∧ y.cells = [y] := by
  cases n with
  | zero => exact h.elim
  | succ n =>
    unfold Fit at h
    split at h
    · obtain ⟨b, rfl⟩ := h; exact ⟨_, rfl, rfl⟩
    · obtain ⟨m, rfl, _⟩ := h; exact ⟨_, rfl, rfl⟩
    · obtain ⟨s, rfl, _⟩ := h; exact ⟨_, rfl, rfl⟩
    · obtain ⟨ys, rfl, _⟩ := h; exact ⟨_, rfl, rfl⟩
    · rename_i fs hfs; exact absurd hfs (hns fs)
    · exact h.elim

theorem cell?_spot {w : World} {a : Addr} {v : Value} (h : w.cell? a = some v) : a.spot = none ∧ a.block < w.heap.size := by
  unfold World.cell? at h
  split at h
  · rename_i c hc
    split at h
    · cases h
    · rename_i hs
      exact ⟨by simpa using hs, (Array.getElem?_eq_some_iff.1 hc).1⟩
  · cases h

/-- Data that came in are read as typed data. -/
theorem open_fit {H : Type} {enc : TypeId × Value → H} {P : Program} {w : World} {γ : Gh} {g : Nat → Nat} (ho : ∀ b, γ.owner b = .other) {S : List TypeId} (hS : ∀ t ∈ S, supOf P S t = true) : ∀ (n : Nat) (t : TypeId) (cs : List Value) x, t ∈ S →
    DataW.trod enc P w 0 (fun _ => true) true n t cs = some x → ∃ xs, All2 (RelV ⟨γ, g, w⟩) xs cs ∧ Fit P n t xs ∧ cs.length = P.cellsOf t := by
  intro n
  induction n with
  | zero => intro t cs x _ h; simp [DataW.trod] at h
  | succ n ih =>
    intro t cs x ht h
    have hs := hS t ht
    unfold supOf at hs
    unfold Fit
    split at hs
    · rename_i hu
      obtain ⟨b, rfl, _⟩ := DataW.trod_bool hu h
      refine ⟨[.bool b], .cons (.bool b) .nil, ?_, by have := beq_iff_eq.1 hs; simp [this]⟩
      exact ⟨b, rfl⟩
    · rename_i k hu
      obtain ⟨m, rfl, _, hw⟩ := DataW.trod_int hu h
      refine ⟨[.int k m], .cons (.int k m) .nil, ?_, by have := beq_iff_eq.1 hs; simp [this]⟩
      exact ⟨m, rfl, hw⟩
    · rename_i hu
      obtain ⟨s, rfl, _, hw⟩ := DataW.trod_string hu h
      refine ⟨[.str s], .cons (.str s) .nil, ?_, by have := beq_iff_eq.1 hs; simp [this]⟩
      exact ⟨s, rfl, hw⟩
    · rename_i e hu
      simp only [Bool.and_eq_true, beq_iff_eq, decide_eq_true_eq, List.contains_iff_mem] at hs
      obtain ⟨⟨h1, he⟩, hpos⟩ := hs
      rcases DataW.trod_slice hu h with ⟨rfl, _⟩ | ⟨a, len, cap, elems, rest, n', hn, rfl, _, hb, hl, hm, hlen, hel, _⟩
      · exact ⟨[L (P.cellsOf e) []], .cons (relV_L (.slro0 _ _ _)) .nil, ⟨[], rfl, by simp, fun y hy => by simp at hy⟩, by simpa using h1.symm⟩
      · obtain rfl : n' = n := by omega
        have key : ∀ i, i < len → ∃ y : AV, (∃ cs', w.cells? 0 (a.add (i * P.cellsOf e)) (P.cellsOf e) = some cs' ∧ All2 (RelV ⟨γ, g, w⟩) y.cells cs') ∧ Fit P n' e y.cells ∧
            (match P.underlying e with | some (.struct _) => ∃ cs, y = .agg cs | _ => y.cells = [y]) := by
          intro i hi
          have h2 := hel i hi
          rw [List.getElem?_eq_getElem (by omega)] at h2
          obtain ⟨cs', h3, h4⟩ := Option.bind_eq_some_iff.1 h2
          obtain ⟨xs, h5, h6, h7⟩ := ih e cs' _ he h4
          by_cases hst : ∃ fs, P.underlying e = some (.struct fs)
          · obtain ⟨fs, hfs⟩ := hst
            exact ⟨.agg xs, ⟨cs', h3, h5⟩, h6, by rw [hfs]; exact ⟨xs, rfl⟩⟩
          · obtain ⟨y, rfl, h8⟩ := fit_cells1 h6 (fun fs hfs => hst ⟨fs, hfs⟩)
            refine ⟨y, ⟨cs', h3, by rw [h8]; exact h5⟩, by rw [h8]; exact h6, ?_⟩
            split
            · rename_i fs hfs; exact absurd ⟨fs, hfs⟩ hst
            · exact h8
        obtain ⟨Y, hY⟩ := Deep.choose_lt key
        have hmem : ∀ y ∈ (List.range len).map Y, Fit P n' e y.cells ∧ (match P.underlying e with | some (.struct _) => ∃ cs, y = .agg cs | _ => y.cells = [y]) := by
          intro y hy
          simp only [List.mem_map, List.mem_range] at hy
          obtain ⟨i, hi, rfl⟩ := hy
          exact (hY i hi).2
        refine ⟨[L (P.cellsOf e) ((List.range len).map Y)], .cons (relV_L ?_) .nil, ⟨_, rfl, by simp; omega, hmem⟩, by simpa using h1.symm⟩
        by_cases hl0 : len = 0
        · subst hl0; exact .slro0 _ _ _
        have hw : Wf (P.cellsOf e) ((List.range len).map Y) := by
          intro y hy
          refine ⟨?_, fit_scalar _ _ _ (hmem y hy).1⟩
          simp only [List.mem_map, List.mem_range] at hy
          obtain ⟨i, hi, rfl⟩ := hy
          obtain ⟨cs', h3, h4⟩ := (hY i hi).1
          rw [h4.length, (World.cells?_some h3).2.1]
        obtain ⟨cs0, h30, _⟩ := (hY 0 (by omega)).1
        have hc0 := (World.cells?_some h30).2.2 0 hpos
        have hc0' : ∃ v, w.cell? a = some v := by
          have : cs0.length = P.cellsOf e := (World.cells?_some h30).2.1
          rw [List.getElem?_eq_getElem (by omega)] at hc0
          simp [Addr.add] at hc0
          exact ⟨_, hc0⟩
        obtain ⟨v0, hv0⟩ := hc0'
        obtain ⟨hsp, hbl⟩ := cell?_spot hv0
        obtain ⟨b, off, sp⟩ := a
        simp only at hsp
        subst hsp
        have hlen' : ((List.range len).map Y).length = len := by simp
        have := RelV.slro (X := ⟨γ, g, w⟩) (P.cellsOf e) ((List.range len).map Y) b off cap (fun j => (w.cell? ⟨b, off + j, none⟩).getD undef) hw (by simp; omega) (ho b) hbl ?_ ?_
        · rw [hlen'] at this; exact this
        all_goals
          intro j hj
          obtain ⟨i, k, hi, hk, rfl, h8⟩ := flat_get? hw j hj
          simp only [List.length_map, List.length_range] at hi
          obtain ⟨cs', h3, h4⟩ := (hY i hi).1
          obtain ⟨_, h9, h10⟩ := World.cells?_some h3
          have h11 := h10 k hk
          rw [Deep.add_add, List.getElem?_eq_getElem (by omega)] at h11
          have h12 : (Addr.add ⟨b, off, none⟩ (i * P.cellsOf e + k)) = ⟨b, off + (i * P.cellsOf e + k), none⟩ := by
            unfold Addr.add
            split
            · rename_i h0; rw [h0]; rfl
            · rfl
          rw [h12] at h11
        · show w.cell? _ = some _
          rw [h11]; rfl
        · have h13 : (flat ((List.range len).map Y))[i * P.cellsOf e + k] = (Y i).cells[k]'(by rw [h4.length]; omega) := by
            have := List.getElem?_eq_getElem hj
            rw [h8] at this
            simp only [List.getElem_map, List.getElem_range] at this
            rw [List.getElem?_eq_getElem (by rw [h4.length]; omega)] at this
            exact (Option.some.inj this).symm
          rw [h13]
          simp only [h11, Option.getD_some]
          exact h4.get k _ _
    · rename_i fs hu
      simp only [Bool.and_eq_true, List.all_eq_true, List.contains_iff_mem] at hs
      obtain ⟨hfs, hcov⟩ := hs
      obtain ⟨xs, n', hn, _, hlen, hxl, hx⟩ := DataW.trod_struct hu h
      obtain rfl : n' = n := by omega
      obtain ⟨ys, h1, h2⟩ := covers_all2 (P := P) (R := RelV ⟨γ, g, w⟩) (r := Fit P n') hlen fs.toList 0 hcov (fun f hf _ => by
        obtain ⟨i, hi, rfl⟩ := List.mem_iff_getElem.1 hf
        have hi' : i < fs.size := by simpa using hi
        have := hx i fs[i] (by simp [hi'])
        rw [List.getElem?_eq_getElem (by omega)] at this
        obtain ⟨zs, h3, h4, _⟩ := ih _ _ _ (hfs _ hf) (by simpa using this)
        exact ⟨zs, by simpa using h3, by simpa using h4⟩)
      exact ⟨ys, by simpa using h1, h2, hlen⟩
    · cases hs

end Go.Ev
