/- What a call leaves behind may be forgotten: results are told by the lowest numbers, garbage is dropped. -/
import Derived.Test.YtlidbfnamhgnlaaGreatDoorEvW
namespace Go.Ev
open Go

/-- Nothing in it bears a number that is new. -/
inductive Old (n : Nat) (g : Nat → Nat) : AV → Prop
  | junk : Old n g .junk
  | bool (b : Bool) : Old n g (.bool b)
  | int (k : IntKind) (m : Int) : Old n g (.int k m)
  | str (s : ByteArray) : Old n g (.str s)
  | slnil (sz : Nat) (xs : List AV) (h : ∀ x ∈ flat xs, Old n g x) : Old n g (.sl .nil sz xs)
  | slro (sz : Nat) (xs : List AV) (h : ∀ x ∈ flat xs, Old n g x) : Old n g (.sl .ro sz xs)
  | slfam (τ g0 o sz : Nat) (xs : List AV) (ht : τ < n) (hg : g0 ≤ g τ) (h : g τ = g0 → ∀ x ∈ flat xs, Old n g x) : Old n g (.sl (.fam τ g0 o) sz xs)
  | agg (xs : List AV) (h : ∀ x ∈ xs, Old n g x) : Old n g (.agg xs)
  | ptr (id off : Nat) (h : id < n) : Old n g (.ptr id off)
  | nilp : Old n g .nilp
  | ept (c : Cap) (sz : Nat) (xs : List AV) (i off : Nat) (h : Old n g (.sl c sz xs)) : Old n g (.ept c sz xs i off)
  | fn (f : Nat) (xs : List AV) (h : ∀ x ∈ xs, Old n g x) : Old n g (.fn f xs)
  | nilf : Old n g .nilf
  | ifc (t : TypeId) (x : AV) (h : Old n g x) : Old n g (.ifc t x)
  | nili : Old n g .nili
  | tup (xs : List AV) (h : ∀ x ∈ xs, Old n g x) : Old n g (.tup xs)
  | it (id : Nat) (h : id < n) : Old n g (.it id)

theorem all_get {p : AV → Prop} {xs : List AV} (h : ∀ i (h : i < xs.length), p xs[i]) : ∀ x ∈ xs, p x := fun x hx => by
  obtain ⟨i, hi, rfl⟩ := List.mem_iff_getElem.1 hx
  exact h i hi

theorem relV_old {X : Ctx} (hb : ∀ id b, X.γ.box id = some b → id < X.γ.top) {x : AV} {u : Value} (h : RelV X x u) : Old X.γ.top X.gens x := by
  induction h with
  | junk => exact .junk
  | bool b => exact .bool b
  | int k n => exact .int k n
  | str s => exact .str s
  | slnil sz => exact .slnil sz [] (fun x h => by simp [flat] at h)
  | slro0 sz a m => exact .slro sz [] (fun x h => by simp [flat] at h)
  | slro sz xs b off m vals hw hm ho hb' hc hr ih => exact .slro sz xs (all_get ih)
  | slstale τ g o sz xs a m hg hm ha ht => exact .slfam τ g o sz xs ht (Nat.le_of_lt hg) (fun h => by omega)
  | slfam0 τ g o sz a hg ht => exact .slfam τ g o sz [] ht (by omega) (fun _ x h => by simp [flat] at h)
  | slfam τ g o sz xs b base m vals hg hf ho hb' hw hm hroom hfr hc hr ht ih => exact .slfam τ g o sz xs ht (by omega) (fun _ => all_get ih)
  | agg cs vs hl hr ih => exact .agg cs (all_get ih)
  | ptr id off b h => exact .ptr id off (hb id b h)
  | nilp => exact .nilp
  | ept c sz xs i off a n m hs hi ih => exact .ept c sz xs i off ih
  | fn f cs vs hl hr ih => exact .fn f cs (all_get ih)
  | nilf => exact .nilf
  | ifc t x v _ ih => exact .ifc t x ih
  | nili => exact .nili
  | tup cs vs hl hr ih => exact .tup cs (all_get ih)
  | it id b h => exact .it id (hb id b h)

/-- From one telling of a world to another one, as far as old numbers go. -/
structure Back (n : Nat) (g : Nat → Nat) (X Y : Ctx) : Prop where
  w : Y.w = X.w
  gens : ∀ τ, τ < n → (X.gens τ = g τ → Y.gens τ = g τ) ∧ (g τ < X.gens τ → g τ < Y.gens τ)
  mono : ∀ τ, τ < n → g τ ≤ X.gens τ
  box : ∀ id b, id < n → X.γ.box id = some b → Y.γ.box id = some b
  other : ∀ b, X.γ.owner b = .other → Y.γ.owner b = .other
  fam : ∀ τ b base, τ < n → X.γ.fam τ = some (b, base) → X.γ.owner b = .fam τ → Y.γ.fam τ = some (b, base) ∧ Y.γ.owner b = .fam τ
  top : n ≤ Y.γ.top

theorem Back.rel {n : Nat} {g : Nat → Nat} {X Y : Ctx} (B : Back n g X Y) {x : AV} {u : Value} (h : RelV X x u) : Old n g x → RelV Y x u := by
  induction h with
  | junk => intro _; exact .junk
  | bool b => intro _; exact .bool b
  | int k n => intro _; exact .int k n
  | str s => intro _; exact .str s
  | slnil sz => intro _; exact .slnil sz
  | slro0 sz a m => intro _; exact .slro0 sz a m
  | slro sz xs b off m vals hw hm ho hb' hc hr ih =>
    intro ho'
    cases ho' with
    | slro _ _ h => exact .slro sz xs b off m vals hw hm (B.other b ho) (by rw [B.w]; exact hb') (fun i hi => by rw [B.w]; exact hc i hi) (fun i hi => ih i hi (h _ (List.getElem_mem _)))
  | slstale τ g0 o sz xs a m hg hm ha ht =>
    intro ho'
    cases ho' with
    | slfam _ _ _ _ _ h1 h2 h3 => exact .slstale τ g0 o sz xs a m (by have := B.gens τ h1; have := B.mono τ h1; omega) hm ha (Nat.lt_of_lt_of_le h1 B.top)
  | slfam0 τ g0 o sz a hg ht =>
    intro ho'
    cases ho' with
    | slfam _ _ _ _ _ h1 h2 h3 => exact .slfam0 τ g0 o sz a (by have := B.gens τ h1; have := B.mono τ h1; omega) (Nat.lt_of_lt_of_le h1 B.top)
  | slfam τ g0 o sz xs b base m vals hg hf ho hb' hw hm hroom hfr hc hr ht ih =>
    intro ho'
    cases ho' with
    | slfam _ _ _ _ _ h1 h2 h3 =>
      obtain ⟨k1, k2⟩ := B.fam τ b base h1 hf ho
      have := B.mono τ h1
      exact .slfam τ g0 o sz xs b base m vals (by have := B.gens τ h1; omega) k1 k2 (by rw [B.w]; exact hb') hw hm (fun i hi => by rw [B.w]; exact hroom i hi) (fun i hi => by rw [B.w]; exact hfr i hi)
        (fun i hi => by rw [B.w]; exact hc i hi) (fun i hi => ih i hi (h3 (by omega) _ (List.getElem_mem _))) (Nat.lt_of_lt_of_le h1 B.top)
  | agg cs vs hl hr ih =>
    intro ho'
    cases ho' with
    | agg _ h => exact .agg cs vs hl (fun i hi => ih i hi (h _ (List.getElem_mem _)))
  | ptr id off b h =>
    intro ho'
    cases ho' with
    | ptr _ _ h1 => exact .ptr id off b (B.box id b h1 h)
  | nilp => intro _; exact .nilp
  | ept c sz xs i off a n m hs hi ih =>
    intro ho'
    cases ho' with
    | ept _ _ _ _ _ h => exact .ept c sz xs i off a n m (ih h) hi
  | fn f cs vs hl hr ih =>
    intro ho'
    cases ho' with
    | fn _ _ h => exact .fn f cs vs hl (fun i hi => ih i hi (h _ (List.getElem_mem _)))
  | nilf => intro _; exact .nilf
  | ifc t x v _ ih =>
    intro ho'
    cases ho' with
    | ifc _ _ h => exact .ifc t x v (ih h)
  | nili => intro _; exact .nili
  | tup cs vs hl hr ih =>
    intro ho'
    cases ho' with
    | tup _ h => exact .tup cs vs hl (fun i hi => ih i hi (h _ (List.getElem_mem _)))
  | it id b h =>
    intro ho'
    cases ho' with
    | it _ h1 => exact .it id b (B.box id b h1 h)

/-- A value told anew: new families get the numbers behind `n`, in the order of `ts`, or are frozen. -/
inductive Ren (n : Nat) (g g1 g2 : Nat → Nat) (ts : List Nat) : AV → AV → Prop
  | old (x : AV) (h : Old n g x) : Ren n g g1 g2 ts x x
  | same (τ o sz : Nat) (xs ys : List AV) (hn : τ < n) (hl : (flat xs).length = (flat ys).length) (hxy : xs.length = ys.length) (hw : Wf sz xs → Wf sz ys)
      (h : ∀ i (h : i < (flat xs).length) (h' : i < (flat ys).length), Ren n g g1 g2 ts (flat xs)[i] (flat ys)[i]) : Ren n g g1 g2 ts (.sl (.fam τ (g1 τ) o) sz xs) (.sl (.fam τ (g2 τ) o) sz ys)
  | keep (τ i o sz : Nat) (xs ys : List AV) (hi : ts[i]? = some τ) (hn : n ≤ τ) (hl : (flat xs).length = (flat ys).length) (hxy : xs.length = ys.length) (hw : Wf sz xs → Wf sz ys)
      (h : ∀ i (h : i < (flat xs).length) (h' : i < (flat ys).length), Ren n g g1 g2 ts (flat xs)[i] (flat ys)[i]) : Ren n g g1 g2 ts (.sl (.fam τ (g1 τ) o) sz xs) (.sl (.fam (n + i) (g (n + i)) o) sz ys)
  | freeze (τ o sz : Nat) (xs ys : List AV) (hi : τ ∉ ts) (hn : n ≤ τ) (hl : (flat xs).length = (flat ys).length) (hxy : xs.length = ys.length) (hw : Wf sz xs → Wf sz ys)
      (h : ∀ i (h : i < (flat xs).length) (h' : i < (flat ys).length), Ren n g g1 g2 ts (flat xs)[i] (flat ys)[i]) : Ren n g g1 g2 ts (.sl (.fam τ (g1 τ) o) sz xs) (.sl .ro sz ys)
  | agg (xs ys : List AV) (hl : xs.length = ys.length) (h : ∀ i (h : i < xs.length) (h' : i < ys.length), Ren n g g1 g2 ts xs[i] ys[i]) : Ren n g g1 g2 ts (.agg xs) (.agg ys)
  | tup (xs ys : List AV) (hl : xs.length = ys.length) (h : ∀ i (h : i < xs.length) (h' : i < ys.length), Ren n g g1 g2 ts xs[i] ys[i]) : Ren n g g1 g2 ts (.tup xs) (.tup ys)
  | fn (f : Nat) (xs ys : List AV) (hl : xs.length = ys.length) (h : ∀ i (h : i < xs.length) (h' : i < ys.length), Ren n g g1 g2 ts xs[i] ys[i]) : Ren n g g1 g2 ts (.fn f xs) (.fn f ys)
  | ifc (t : TypeId) (x y : AV) (h : Ren n g g1 g2 ts x y) : Ren n g g1 g2 ts (.ifc t x) (.ifc t y)

/-- The ghost that tells anew. -/
def Gh.anew (γ : Gh) (n : Nat) (ts : List Nat) : Gh where
  box id := if id < n then γ.box id else none
  owner b := match γ.owner b with
    | .other => .other
    | .box id => if id < n then .box id else .other
    | .fam τ => if τ < n then .fam τ else match ts.idxOf? τ with
      | some i => .fam (n + i)
      | none => .other
  fam ν := if ν < n then γ.fam ν else (ts[ν - n]?).bind γ.fam
  top := n + ts.length

theorem idxOf_get {ts : List Nat} (hnd : ts.Nodup) {i τ : Nat} (h : ts[i]? = some τ) : ts.idxOf? τ = some i := by
  obtain ⟨hi, rfl⟩ := List.getElem?_eq_some_iff.1 h
  rw [List.idxOf?_eq_some_iff]
  refine ⟨hi, by simp, fun j hj => ?_⟩
  have := List.nodup_iff_pairwise_ne.1 hnd
  have h2 := List.pairwise_iff_getElem.1 this j i (by omega) hi hj
  simpa using h2

theorem idxOf_none {ts : List Nat} {τ : Nat} (h : τ ∉ ts) : ts.idxOf? τ = none := by
  rw [List.idxOf?_eq_none_iff]; exact h

theorem anew_back {γ : Gh} {n : Nat} {ts : List Nat} {g g1 g2 : Nat → Nat} {w : World} (hm : ∀ τ, τ < n → g τ ≤ g1 τ) (hg2 : ∀ τ, τ < n → (g1 τ = g τ → g2 τ = g τ) ∧ (g τ < g1 τ → g τ < g2 τ)) :
    Back n g ⟨γ, g1, w⟩ ⟨γ.anew n ts, fun τ => if τ < n then g2 τ else g τ, w⟩ where
  w := rfl
  gens τ h := by simpa [h] using hg2 τ h
  mono := hm
  box id b h hb := by have hb' : γ.box id = some b := hb; simp [Gh.anew, h, hb']
  other b h := by have h' : γ.owner b = .other := h; simp [Gh.anew, h']
  fam τ b base h h1 h2 := by
    have h1' : γ.fam τ = some (b, base) := h1
    have h2' : γ.owner b = .fam τ := h2
    simp [Gh.anew, h, h1', h2']
  top := Nat.le_add_right _ _

theorem Ren.rel {γ : Gh} {n : Nat} {ts : List Nat} (hnd : ts.Nodup) {g g1 g2 : Nat → Nat} {w : World} (hm : ∀ τ, τ < n → g τ ≤ g1 τ) (hg2 : ∀ τ, τ < n → (g1 τ = g τ → g2 τ = g τ) ∧ (g τ < g1 τ → g τ < g2 τ)) {x y : AV} (h : Ren n g g1 g2 ts x y) :
    ∀ {u : Value}, RelV ⟨γ, g1, w⟩ x u → RelV ⟨γ.anew n ts, fun τ => if τ < n then g2 τ else g τ, w⟩ y u := by
  induction h with
  | old x h => intro u hr; exact (anew_back hm hg2).rel hr h
  | same τ o sz xs ys hn hl hxy hw h ih =>
    intro u hr
    cases hr with
    | slstale _ _ _ _ _ _ _ hg => exact absurd hg (Nat.lt_irrefl _)
    | slfam0 _ _ _ _ a hg ht =>
      obtain rfl : ys = [] := List.length_eq_zero_iff.1 hxy.symm
      exact .slfam0 _ _ _ _ a (if_pos hn) (by simp [Gh.anew]; omega)
    | slfam _ _ _ _ _ b base m vals hg hf ho hb' hw' hm' hroom hfr hc hr ht =>
      have ho' : γ.owner b = .fam τ := ho
      have hf' : γ.fam τ = some (b, base) := hf
      have := RelV.slfam (X := ⟨γ.anew n ts, fun τ => if τ < n then g2 τ else g τ, w⟩) τ (g2 τ) o sz ys b base m vals (if_pos hn) (by simp [Gh.anew, hn, hf'])
        (by simp [Gh.anew, ho', hn]) hb' (hw hw') (by omega) hroom hfr (fun j hj => hc j (by omega)) (fun j hj => ih j (by omega) hj (hr j (by omega))) (by simp [Gh.anew]; omega)
      rwa [← hxy] at this
  | keep τ i o sz xs ys hi hn hl hxy hw h ih =>
    intro u hr
    have hlt : i < ts.length := (List.getElem?_eq_some_iff.1 hi).1
    cases hr with
    | slstale _ _ _ _ _ _ _ hg => exact absurd hg (Nat.lt_irrefl _)
    | slfam0 _ _ _ _ a hg ht =>
      obtain rfl : ys = [] := List.length_eq_zero_iff.1 hxy.symm
      exact .slfam0 _ _ _ _ a (if_neg (by omega)) (by simp [Gh.anew]; omega)
    | slfam _ _ _ _ _ b base m vals hg hf ho hb' hw' hm' hroom hfr hc hr ht =>
      have ho' : γ.owner b = .fam τ := ho
      have hf' : γ.fam τ = some (b, base) := hf
      have := RelV.slfam (X := ⟨γ.anew n ts, fun τ => if τ < n then g2 τ else g τ, w⟩) (n + i) (g (n + i)) o sz ys b base m vals (if_neg (by omega)) (by simp [Gh.anew, show ¬ n + i < n by omega, hi, hf'])
        (by simp [Gh.anew, ho', show ¬ τ < n by omega, idxOf_get hnd hi]) hb' (hw hw') (by omega) hroom hfr (fun j hj => hc j (by omega)) (fun j hj => ih j (by omega) hj (hr j (by omega))) (by simp [Gh.anew]; omega)
      rwa [← hxy] at this
  | freeze τ o sz xs ys hi hn hl hxy hw h ih =>
    intro u hr
    cases hr with
    | slstale _ _ _ _ _ _ _ hg => exact absurd hg (Nat.lt_irrefl _)
    | slfam0 _ _ _ _ a hg ht =>
      obtain rfl : ys = [] := List.length_eq_zero_iff.1 hxy.symm
      exact .slro0 _ _ _
    | slfam _ _ _ _ _ b base m vals hg hf ho hb' hw' hm' hroom hfr hc hr ht =>
      have ho' : γ.owner b = .fam τ := ho
      have := RelV.slro (X := ⟨γ.anew n ts, fun τ => if τ < n then g2 τ else g τ, w⟩) sz ys b (base + o * sz) m vals (hw hw') (by omega)
        (by simp [Gh.anew, ho', show ¬ τ < n by omega, idxOf_none hi]) hb' (fun j hj => hc j (by omega)) (fun j hj => ih j (by omega) hj (hr j (by omega)))
      rwa [← hxy] at this
  | agg xs ys hl h ih =>
    intro u hr
    cases hr with
    | agg _ vs hl' hr' => exact .agg ys vs (by omega) (fun i hi => ih i (by omega) hi (hr' i (by omega)))
  | tup xs ys hl h ih =>
    intro u hr
    cases hr with
    | tup _ vs hl' hr' => exact .tup ys vs (by omega) (fun i hi => ih i (by omega) hi (hr' i (by omega)))
  | fn f xs ys hl h ih =>
    intro u hr
    cases hr with
    | fn _ _ vs hl' hr' => exact .fn f ys vs (by omega) (fun i hi => ih i (by omega) hi (hr' i (by omega)))
  | ifc t x y h ih =>
    intro u hr
    cases hr with
    | ifc _ _ v hr' => exact .ifc t y v (ih hr')

/-- A step told anew. -/
theorem Step.anew {γ γ1 : Gh} {st st1 : St} {w w' : World} (hS : RelS γ st w) (hst : Step γ st w γ1 st1 w' (fun id => id < st.next)) (ts : List Nat) (hnd : ts.Nodup) (g2 : Nat → Nat) (hg2 : ∀ τ, τ < st.next → (st1.gens τ = st.gens τ → g2 τ = st.gens τ) ∧ (st.gens τ < st1.gens τ → st.gens τ < g2 τ))
    (bx : Nat → Option (List AV)) (hbx : ∀ id, (id < st.next ∧ st1.boxes id = st.boxes id ∧ bx id = st.boxes id) ∨ (st.next ≤ id ∧ bx id = st.boxes id) ∨
      (γ.box id ≠ none ∧ id < st.next ∧ ∃ cs cs', st1.boxes id = some cs ∧ bx id = some cs' ∧ cs.length = cs'.length ∧ ∀ i (h : i < cs.length) (h' : i < cs'.length), Ren st.next st.gens st1.gens g2 ts cs[i] cs'[i])) (hit : ∀ id, id < st.next → st1.iters id = st.iters id) :
    Step γ st w (γ1.anew st.next ts) ⟨st.next + ts.length, bx, st.iters, fun τ => if τ < st.next then g2 τ else st.gens τ⟩ w' (fun id => id < st.next) := by
  have hm : ∀ τ, τ < st.next → st.gens τ ≤ st1.gens τ := fun τ _ => hst.le.gens τ
  refine ⟨⟨?_, ?_, hst.le.size, ?_, ?_, ?_, hst.le.still⟩, ⟨?_, ?_, ?_, ?_, ?_, ?_, rfl⟩, ?_, Nat.le_add_right _ _⟩
  · intro id b hb
    have hid := (hS.inb id b hb).2
    have := hst.le.box id b hb
    simpa [Gh.anew, hid] using this
  · intro τ
    simp only
    split
    · rename_i h
      have h1 := hm τ h
      have h2 := hg2 τ h
      omega
    · exact Nat.le_refl _
  · intro b hb ho
    obtain ⟨h1, h2⟩ := hst.le.other b hb ho
    have h1' : γ1.owner b = .other := h1
    exact ⟨by simp [Gh.anew, h1'], h2⟩
  · intro τ b base hg hf ho hb
    have hτ := (hS.inf τ b base hf).2
    simp only [hτ, if_true] at hg
    have hg' : st1.gens τ = st.gens τ := by
      have h1 := hm τ hτ
      have h2 := hg2 τ hτ
      omega
    obtain ⟨h1, h2, h3⟩ := hst.le.fam τ b base hg' hf ho hb
    have h1' : γ1.fam τ = some (b, base) := h1
    have h2' : γ1.owner b = .fam τ := h2
    exact ⟨by simp [Gh.anew, hτ, h1'], by simp [Gh.anew, hτ, h2'], h3⟩
  · show γ.top ≤ st.next + ts.length
    rw [hS.top]; exact Nat.le_add_right _ _
  · intro id cs b hb hg
    simp only [Gh.anew] at hg
    split at hg
    case isFalse => cases hg
    rename_i hid
    have old : ∀ cs, st1.boxes id = some cs → γ1.owner b = .box id ∧ ∃ vs e, w'.heap[b]? = some (.cells vs e (0, 0)) ∧ cs.length = vs.size ∧ ∀ i (h : i < cs.length), RelV ⟨γ1, st1.gens, w'⟩ cs[i] (vs.getD i undef) := fun cs hcs => hst.rel.box id cs b hcs hg
    rcases hbx id with ⟨_, h2, h3⟩ | ⟨h2, _⟩ | ⟨_, _, cs1, cs2, h2, h3, h4, h5⟩
    · simp only at hb
      rw [h3, ← h2] at hb
      obtain ⟨k1, vs, e, k2, k3, k4⟩ := old cs hb
      have hgb : γ.box id = some b := (hst.fam id hid).2.1 ▸ hg
      refine ⟨by simp [Gh.anew, k1, hid], vs, e, k2, k3, fun i hi => (anew_back hm hg2).rel (k4 i hi) ?_⟩
      rw [h2] at hb
      obtain ⟨_, vs0, e0, _, _, k7⟩ := hS.box id cs b hb hgb
      have := relV_old (X := ⟨γ, st.gens, w⟩) (fun id b hb => by show id < γ.top; rw [hS.top]; exact (hS.inb id b hb).2) (k7 i hi)
      have ht : (⟨γ, st.gens, w⟩ : Ctx).γ.top = st.next := hS.top
      rw [ht] at this
      exact this
    · omega
    · simp only at hb
      rw [h3] at hb; cases hb
      obtain ⟨k1, vs, e, k2, k3, k4⟩ := old cs1 h2
      exact ⟨by simp [Gh.anew, k1, hid], vs, e, k2, by omega, fun i hi => (h5 i (by omega) hi).rel hnd hm hg2 (k4 i (by omega))⟩
  · intro id s p b hi hg
    simp only [Gh.anew] at hg
    split at hg
    case isFalse => cases hg
    rename_i hid
    simp only at hi
    rw [← hit id hid] at hi
    obtain ⟨k1, k2⟩ := hst.rel.iter id s p b hi hg
    exact ⟨by simp [Gh.anew, k1, hid], k2⟩
  · intro id b hg
    simp only [Gh.anew] at hg
    split at hg
    case isFalse => cases hg
    rename_i hid
    exact ⟨(hst.rel.inb id b hg).1, by simp; omega⟩
  · intro τ b base hf
    simp only [Gh.anew] at hf
    split at hf
    · rename_i hτ
      exact ⟨(hst.rel.inf τ b base hf).1, by simp; omega⟩
    · rename_i hτ
      simp only [Option.bind_eq_some_iff] at hf
      obtain ⟨τ', h1, h2⟩ := hf
      have := (List.getElem?_eq_some_iff.1 h1).1
      exact ⟨(hst.rel.inf τ' b base h2).1, by simp; omega⟩
  · intro b hb
    have := hst.rel.free b hb
    simp [Gh.anew, this]
  · intro id hid
    simp only at hid
    refine ⟨?_, (hS.new id (by omega)).2⟩
    rcases hbx id with ⟨h1, _⟩ | ⟨_, h2⟩ | ⟨_, h1, _⟩
    · omega
    · show bx id = none
      rw [h2]; exact (hS.new id (by omega)).1
    · omega
  · intro id hid
    obtain ⟨h1, h2, h3⟩ := hst.fam id hid
    refine ⟨by simp [Gh.anew, hid, h1], by simp [Gh.anew, hid, h2], fun hn => ⟨?_, rfl⟩⟩
    rcases hbx id with ⟨_, _, h4⟩ | ⟨h4, _⟩ | ⟨ha, _⟩
    · exact h4
    · omega
    · exact absurd hn ha

/-- A call told anew. -/
theorem CallOk.anew {P : Program} {f : Nat} {args : List AV} {st st1 : St} {v v' : AV} (h : CallOk P f args st v st1) (ts : List Nat) (hnd : ts.Nodup) (g2 : Nat → Nat) (hg2 : ∀ τ, τ < st.next → (st1.gens τ = st.gens τ → g2 τ = st.gens τ) ∧ (st.gens τ < st1.gens τ → st.gens τ < g2 τ)) (hv : Ren st.next st.gens st1.gens g2 ts v v')
    (bx : Nat → Option (List AV)) (hbx : ∀ id, (id < st.next ∧ st1.boxes id = st.boxes id ∧ bx id = st.boxes id) ∨ (st.next ≤ id ∧ bx id = st.boxes id) ∨
      ((∃ off, AV.ptr id off ∈ args) ∧ id < st.next ∧ ∃ cs cs', st1.boxes id = some cs ∧ bx id = some cs' ∧ cs.length = cs'.length ∧ ∀ i (h : i < cs.length) (h' : i < cs'.length), Ren st.next st.gens st1.gens g2 ts cs[i] cs'[i])) (hit : ∀ id, id < st.next → st1.iters id = st.iters id) :
    CallOk P f args st v' ⟨st.next + ts.length, bx, st.iters, fun τ => if τ < st.next then g2 τ else st.gens τ⟩ := by
  refine ⟨h.1, fun γ w vs hS hl hr => (h.2 γ w vs hS hl hr).mono ?_⟩
  rintro e w' ⟨u, γ1, rfl, hst, hu⟩
  refine ⟨u, γ1.anew st.next ts, rfl, hst.anew hS ts hnd g2 hg2 bx (fun id => ?_) hit, hv.rel hnd (fun τ _ => hst.le.gens τ) hg2 hu⟩
  rcases hbx id with h1 | h1 | ⟨⟨off, ha⟩, h1⟩
  · exact .inl h1
  · exact .inr (.inl h1)
  · refine .inr (.inr ⟨fun hn => ?_, h1⟩)
    obtain ⟨j, hj, hja⟩ := List.mem_iff_getElem.1 ha
    have h8 := hr j hj
    rw [hja] at h8
    obtain ⟨b, hb, _⟩ := relV_ptr h8
    have hb' : γ.box id = some b := hb
    rw [hn] at hb'; cases hb'

/-- What is old stays. -/
structure Keeps (st st1 : St) : Prop where
  box : ∀ id, id < st.next → st1.boxes id = st.boxes id
  iter : ∀ id, id < st.next → st1.iters id = st.iters id
  gens : ∀ τ, τ < st.next → st1.gens τ = st.gens τ

theorem Keeps.gen {st st1 : St} (hk : Keeps st st1) : ∀ τ, τ < st.next → (st1.gens τ = st.gens τ → st.gens τ = st.gens τ) ∧ (st.gens τ < st1.gens τ → st.gens τ < st.gens τ) :=
  fun τ h => ⟨fun _ => rfl, fun h' => by have := hk.gens τ h; omega⟩

theorem Keeps.bx {st st1 : St} (hk : Keeps st st1) (id : Nat) : (id < st.next ∧ st1.boxes id = st.boxes id ∧ st.boxes id = st.boxes id) ∨ (st.next ≤ id ∧ st.boxes id = st.boxes id) := by
  by_cases hid : id < st.next
  · exact .inl ⟨hid, hk.box id hid, rfl⟩
  · exact .inr ⟨by omega, rfl⟩

theorem Step.told {γ γ1 : Gh} {st st1 : St} {w w' : World} (hS : RelS γ st w) (hst : Step γ st w γ1 st1 w' (fun id => id < st.next)) (ts : List Nat) (hnd : ts.Nodup) (hk : Keeps st st1) :
    Step γ st w (γ1.anew st.next ts) { st with next := st.next + ts.length } w' (fun id => id < st.next) ∧ ∀ {v v' : AV} {u : Value}, Ren st.next st.gens st1.gens st.gens ts v v' → RelV ⟨γ1, st1.gens, w'⟩ v u → RelV ⟨γ1.anew st.next ts, st.gens, w'⟩ v' u := by
  have h1 := hst.anew hS ts hnd st.gens hk.gen st.boxes (fun id => (hk.bx id).imp _root_.id .inl) hk.iter
  have h2 : (fun τ => if τ < st.next then st.gens τ else st.gens τ) = st.gens := funext fun τ => by split <;> rfl
  refine ⟨h2 ▸ h1, fun {v v' u} hv hu => ?_⟩
  have := hv.rel hnd (fun τ _ => hst.le.gens τ) hk.gen hu
  rwa [h2] at this

theorem CallOk.told {P : Program} {f : Nat} {args : List AV} {st st1 : St} {v v' : AV} (h : CallOk P f args st v st1) (ts : List Nat) (hnd : ts.Nodup) (hv : Ren st.next st.gens st1.gens st.gens ts v v') (hk : Keeps st st1) :
    CallOk P f args st v' { st with next := st.next + ts.length } := by
  have := h.anew ts hnd st.gens hk.gen hv st.boxes (fun id => (hk.bx id).imp _root_.id .inl) hk.iter
  rwa [show (fun τ => if τ < st.next then st.gens τ else st.gens τ) = st.gens from funext fun τ => by split <;> rfl] at this

theorem CallOk.still {P : Program} {f : Nat} {args : List AV} {st st1 : St} {v : AV} (h : CallOk P f args st v st1) (hv : Old st.next st.gens v) (hk : Keeps st st1) : CallOk P f args st v st :=
  h.told [] List.nodup_nil (.old v hv) hk

/-- The state in which nothing is. -/
def st0 : St := ⟨0, fun _ => none, fun _ => none, fun _ => 0⟩

/-- A call with no arguments, met from nothing, is met from everything. -/
theorem CallOk.closed {P : Program} {f : Nat} {st1 : St} {v : AV} (h : CallOk P f [] st0 v st1) (hv : ∀ X Y u, RelV X v u → RelV Y v u) (st : St) : CallOk P f [] st v st := by
  refine ⟨h.1, fun γ w vs hS hl hr => ?_⟩
  have h0 : RelS ⟨fun _ => none, fun _ => .other, fun _ => none, 0⟩ st0 w :=
    ⟨(fun _ _ _ h => by cases h), (fun _ _ _ _ h => by cases h), (fun _ _ h => by cases h), (fun _ _ _ h => by cases h), (fun _ _ => rfl), (fun _ _ => ⟨rfl, rfl⟩), rfl⟩
  refine (h.2 _ w vs h0 hl (fun i hi => by simp at hi)).mono ?_
  rintro e w' ⟨u, γ1, rfl, hst, hu⟩
  have hsz : w.heap.size ≤ w'.heap.size := hst.le.size
  have hoth : ∀ b, b < w.heap.size → w'.heap[b]? = w.heap[b]? := fun b hb => (hst.le.other b hb rfl).2
  have hle : Le ⟨γ, st.gens, w⟩ ⟨γ, st.gens, w'⟩ := ⟨fun _ _ h => h, fun _ => Nat.le_refl _, hsz, fun b hb ho => ⟨ho, hoth b hb⟩, fun τ b base _ hf ho hb => ⟨hf, ho, hoth b hb⟩, Nat.le_refl _, hst.le.still⟩
  refine ⟨u, γ, rfl, ⟨hle, ?_, fun _ _ => ⟨rfl, rfl, fun _ => ⟨rfl, rfl⟩⟩, Nat.le_refl _⟩, hv _ _ u hu⟩
  exact hS.keep hle rfl rfl rfl rfl (fun b id hb ho => ⟨hoth b hb, ho⟩) (fun τ b base hf => by have := hS.inf τ b base hf; omega) (fun b hb => hS.free b (by omega))

theorem CallOk.closed_bool {P : Program} {f : Nat} {st1 : St} {b : Bool} (h : CallOk P f [] st0 (.bool b) st1) (st : St) : CallOk P f [] st (.bool b) st :=
  h.closed (fun X Y u hu => by cases hu; exact .bool b) st

end Go.Ev
