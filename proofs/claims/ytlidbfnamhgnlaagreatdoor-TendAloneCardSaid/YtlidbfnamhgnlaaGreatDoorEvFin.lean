/- From the machine's call that answers true to what a law's row asks of the world behind it. No program in sight. -/
import Derived.Test.YtlidbfnamhgnlaaGreatDoorEvNd
import Derived.Test.YtlidbfnamhgnlaaGreatDoorEvCc
import Derived.OpenShut
import Derived.WideKeyArgs
import Derived.Below
namespace Go.Ev
open Go Go.ChangeShapes Go.WideShapes
open Enc (av)

/-- Nothing is told of memory yet. -/
def γ0 : Gh := ⟨fun _ => none, fun _ => .other, fun _ => none, 0⟩

theorem relS0 (w : World) : RelS γ0 st0 w :=
  ⟨(fun _ _ _ h => by cases h), (fun _ _ _ _ h => by cases h), (fun _ _ h => by cases h), (fun _ _ _ h => by cases h), (fun _ _ => rfl), (fun _ _ => ⟨rfl, rfl⟩), rfl⟩

theorem trodAll_stays {H : Type} {enc : TypeId × Value → H} {P : Program} (hl : laidOutB P = true) {W W' : World} {sp' : Nat → Bool} : ∀ (ts : List TypeId) (vs : List Value) (ds : List (DataW H)) (ps : List MemPlace), (∀ t ∈ ts, P.readableRec t = true ∧ t < P.types.size) →
    DataW.TrodAll enc P W 0 (fun _ => true) true ts vs ds ps → (∀ p ∈ ps, W.sameAt W' p) → (∀ p ∈ ps, sp' p.block = true) → DataW.TrodAll enc P W' 0 sp' true ts vs ds ps := by
  intro ts
  induction ts with
  | nil =>
    intro vs ds ps _ h _ _
    obtain ⟨rfl, rfl, rfl⟩ := trodAll_nil h
    exact rfl
  | cons t ts ih =>
    intro vs ds ps ht h hs hp
    obtain ⟨v, vs', d, ds', p, q, rfl, rfl, rfl, h1, h2⟩ := trodAll_cons h
    refine trodAll_cons_mk (WideElems.Trod_stays hl (ht t (by simp)).1 (ht t (by simp)).2 h1 (fun x hx => hs x (by simp [hx])) (fun x hx => hp x (by simp [hx]))) ?_
    exact ih _ _ _ (fun u hu => ht u (by simp [hu])) h2 (fun x hx => hs x (by simp [hx])) (fun x hx => hp x (by simp [hx]))

/-- A law whose call answers true, and that only reads what came in. -/
theorem said_of_call {H : Type} {enc : TypeId × Value → H} {P : Program} {fi : Nat} {f : Func} {s : ChangeSpec} {W : World} {args : Array Value} {ds gs : List (DataW H)} {before : List MemPlace} {tb : TypeId}
    (hl : laidOutB P = true) (hts : ∀ t ∈ f.params.toList, P.readableRec t = true ∧ t < P.types.size) (hvars : s.vars = []) (hres : f.resultTypes = #[tb]) (hu : P.underlying tb = some .bool)
    (hW : DataW.Whole enc P f.params.toList s.vars false W args.toList ds gs before)
    (hfn : (s.fn H (ds ++ gs)).results = [.lit (.bool true)] ∧ (s.fn H (ds ++ gs)).args = ds ∧ (s.fn H (ds ++ gs)).vars = [])
    {avs : List AV} {st1 : St} (hcall : CallOk P fi avs st0 (.bool true) st1) (hargs : All2 (RelV ⟨γ0, st0.gens, W⟩) avs args.toList) :
    Calls P fi args W fun e W' => ∃ v, e = .returned v ∧ s.post enc P f false true false false W args v W' := by
  have hlen : avs.length = args.size := by simpa using hargs.length
  refine (hcall.2 γ0 W args (relS0 W) hlen (fun i hi => ?_)).mono ?_
  · have hi' : i < args.toList.length := by rw [← hargs.length]; exact hi
    have := hargs.get i hi hi'
    have h2 : i < args.size := by simpa using hi'
    simpa [Array.getD_eq_getD_getElem?, h2] using this
  rintro e W' ⟨u, γ', rfl, hst, hu'⟩
  obtain rfl : u = .bool true := by cases hu'; rfl
  have hheap : ∀ b, b < W.heap.size → W'.heap[b]? = W.heap[b]? := fun b hb => (hst.le.other b hb rfl).2
  have hlt : ∀ p ∈ before, p.block < W.heap.size := fun p hp => hW.lt p hp
  have hsame : ∀ p ∈ before, W.sameAt W' p := by
    intro p hp
    have hb := hlt p hp
    cases p with
    | cell b o => exact World.cell?_of_block (w := W) (hheap b hb)
    | map b => exact hheap b hb
  have hW0 := hW
  obtain ⟨p, q, hA, hV, rfl, _, _⟩ := hW0
  rw [hvars] at hV
  obtain ⟨rfl, rfl⟩ := trodVars_none hV
  refine ⟨_, rfl, ds, [], p ++ [], [], p, [], hW, ?_, ?_, ?_, ?_, fun h => by cases h⟩
  · rw [hfn.1, hres]
    exact trodAll_cons_mk (RowKit.shut_bool hu true) trodAll_mk0
  · rw [hfn.2.1]
    exact trodAll_stays hl _ _ _ _ hts hA (fun x hx => hsame x (by simp [hx])) (fun x hx => by simpa using hlt x (by simp [hx]))
  · rw [hfn.2.2, hvars]; exact rfl
  · refine ⟨hst.le.still.os, hst.le.still.output, fun i hi => ?_⟩
    rw [hheap i hi]
    split <;> simp_all

/-! ### what typed data are -/

theorem fitS_cons {P : Program} {r : TypeId → List AV → Prop} {f : Field} {fs : List Field} {xs : List AV} (h : FitS P r (f :: fs) xs) : ∃ a b, xs = a ++ b ∧ r f.type a ∧ FitS P r fs b := by
  obtain ⟨a, b, h1, h2, _, h3⟩ := h
  exact ⟨a, b, h1, h2, h3⟩

theorem fit_int {P : Program} {n : Nat} {t : TypeId} {xs : List AV} {k : IntKind} (hu : P.underlying t = some (.int k)) (h : Fit P n t xs) : ∃ m, xs = [.int k m] ∧ (Lit.int k m).wf = true := by
  cases n with
  | zero => exact h.elim
  | succ n => unfold Fit at h; rw [hu] at h; exact h

theorem fit_bool {P : Program} {n : Nat} {t : TypeId} {xs : List AV} (hu : P.underlying t = some .bool) (h : Fit P n t xs) : ∃ b, xs = [.bool b] := by
  cases n with
  | zero => exact h.elim
  | succ n => unfold Fit at h; rw [hu] at h; exact h

theorem fit_string {P : Program} {n : Nat} {t : TypeId} {xs : List AV} (hu : P.underlying t = some .string) (h : Fit P n t xs) : ∃ s, xs = [.str s] ∧ s.size ≤ maxLen := by
  cases n with
  | zero => exact h.elim
  | succ n => unfold Fit at h; rw [hu] at h; exact h

theorem fit_struct {P : Program} {n : Nat} {t : TypeId} {xs : List AV} {fs : Array Field} (hu : P.underlying t = some (.struct fs)) (h : Fit P n t xs) : ∃ m, FitS P (Fit P m) fs.toList xs := by
  cases n with
  | zero => exact h.elim
  | succ n => unfold Fit at h; rw [hu] at h; exact ⟨n, h⟩

theorem map_of_all {α β : Type} {g : α → β} : ∀ (ys : List β), (∀ y ∈ ys, ∃ x, y = g x) → ∃ xs, ys = List.map g xs
  | [], _ => ⟨[], rfl⟩
  | y :: ys, h => by
    obtain ⟨x, rfl⟩ := h y (by simp)
    obtain ⟨xs, rfl⟩ := map_of_all ys (fun z hz => h z (by simp [hz]))
    exact ⟨x :: xs, rfl⟩

/-- A list of structs. -/
theorem fit_lst {α : Type} [Enc α] {P : Program} {n : Nat} {t e : TypeId} {fs : Array Field} {xs : List AV} (hu : P.underlying t = some (.slice e)) (he : P.underlying e = some (.struct fs)) (hsz : P.cellsOf e = Enc.sz (α := α))
    (hel : ∀ m ys, Fit P m e ys → ∃ x : α, ys = (av x).cells) (hag : ∀ x : α, ∃ cs, av x = .agg cs) (h : Fit P n t xs) : ∃ l : List α, xs = [lst l] := by
  cases n with
  | zero => exact h.elim
  | succ n =>
    unfold Fit at h
    rw [hu] at h
    obtain ⟨ys, rfl, _, h2⟩ := h
    obtain ⟨l, rfl⟩ := map_of_all (g := (av : α → AV)) ys (fun y hy => by
      obtain ⟨h3, h4⟩ := h2 y hy
      rw [he] at h4
      obtain ⟨cs, rfl⟩ := h4
      obtain ⟨x, h5⟩ := hel _ _ h3
      obtain ⟨cs', h6⟩ := hag x
      rw [h6] at h5
      exact ⟨x, by rw [h6]; simpa [AV.cells] using h5⟩)
    exact ⟨l, by rw [lst, hsz]⟩

end Go.Ev
