/- Each operation of the evaluator but a call is what the machine does. -/
import Derived.Test.YtlidbfnamhgnlaaGreatDoorEvN
import Derived.Laws.BytesArg
namespace Go.Ev
open Go

def OpOk (P : Program) (γ : Gh) (st : St) (w : World) (nt : Nat) (a : Act) (id : Nat) (o : Oper) (v : AV) (e' : Env) (st' : St) : Prop :=
  ∃ γ' w' u nx, (execOp a.eval o).run P w = .ok nx w' ∧ (nx = .value u ∨ (nx = .skip ∧ u = undef)) ∧ Step γ st w γ' st' w' (fun j => j ≠ id) ∧ RelE γ' st' w' nt e' a ∧ RelV ⟨γ', st'.gens, w'⟩ v u

section
variable {P : Program} {γ : Gh} {st : St} {w : World} {nt : Nat} {e : Env} {a : Act} {id : Nat} {o : Oper}

theorem OpOk.pure (hS : RelS γ st w) (hE : RelE γ st w nt e a) {v : AV} {u : Value} (hrun : (execOp a.eval o).run P w = .ok (.value u) w) (hv : RelV ⟨γ, st.gens, w⟩ v u) : OpOk P γ st w nt a id o v e st :=
  ⟨γ, w, u, _, hrun, .inl rfl, Step.refl hS _, hE, hv⟩

theorem relOpdO (hE : RelE γ st w nt e a) {x : Option Operand} {y : Option Opd} (h : opdO x = some y) : RelO ⟨γ, st.gens, w⟩ (y.map (·.ev e)) (x.map a.eval) ∧ x.isSome = y.isSome := by
  cases x with
  | none => simp [opdO] at h; subst h; exact ⟨trivial, rfl⟩
  | some x =>
    simp only [opdO, Option.map_eq_some_iff] at h
    obtain ⟨z, hz, rfl⟩ := h
    exact ⟨relOpd hE hz, rfl⟩

theorem relOpds (hE : RelE γ st w nt e a) : ∀ {xs : List Operand} {ys : List Opd}, opdsOf xs = some ys → All2 (fun y v => RelV ⟨γ, st.gens, w⟩ y v) (ys.map (·.ev e)) (xs.map a.eval)
  | [], ys, h => by simp [opdsOf] at h; subst h; exact .nil
  | x :: xs, ys, h => by
    simp only [opdsOf] at h
    split at h
    · rename_i y ys' h1 h2
      simp at h; subst h
      exact .cons (relOpd hE h1) (relOpds hE h2)
    · cases h

theorem All2.length {α β : Type} {R : α → β → Prop} {as : List α} {bs : List β} (h : All2 R as bs) : as.length = bs.length := by
  induction h <;> simp_all

theorem All2.get {α β : Type} {R : α → β → Prop} {as : List α} {bs : List β} (h : All2 R as bs) : ∀ i (h1 : i < as.length) (h2 : i < bs.length), R as[i] bs[i] := by
  induction h with
  | nil => intro i h; simp at h
  | cons h t ih =>
    intro i h1 h2
    cases i with
    | zero => exact h
    | succ i => exact ih i (by simp at h1; omega) (by simp at h2; omega)

theorem run_mnmx (X : Ctx) (mx : Bool) : ∀ {as : List AV} {bs : List Value}, All2 (RelV X) as bs → ∀ {x v : AV} {y : Value}, RelV X x y → as.foldlM (mnmx2 mx) x = some v →
    ∃ u, (bs.foldlM (if mx then Builtin.max2 else Builtin.min2) y).run P w = .ok u w ∧ RelV X v u := by
  intro as bs h
  induction h with
  | nil => intro x v y hx hv; simp at hv; subst hv; exact ⟨y, rfl, hx⟩
  | @cons a b as bs hab t ih =>
    intro x v y hx hv
    simp only [List.foldlM_cons, Option.bind_eq_bind, Option.bind_eq_some_iff] at hv
    obtain ⟨z, hz, hv⟩ := hv
    cases x <;> simp only [mnmx2, reduceCtorEq] at hz
    cases a <;> simp only [mnmx2, reduceCtorEq] at hz
    cases hx; cases hab
    simp at hz; subst hz
    simp only [List.foldlM_cons, Sem.run_bind]
    cases mx with
    | true =>
      simp only [if_true, Builtin.max2, Sem.run_pure, Result.andThen_ok] at ih ⊢
      exact ih (.int _ _) hv
    | false =>
      simp only [Bool.false_eq_true, if_false, Builtin.min2, Sem.run_pure, Result.andThen_ok] at ih ⊢
      exact ih (.int _ _) hv
end


theorem strOf_ints : ∀ {xs : List AV} {l : List UInt8}, strOf xs = some l → ∃ ns : List Int, xs = ns.map (AV.int .u8) ∧ l = ns.map fun n => UInt8.ofNat n.toNat
  | [], l, h => by simp [strOf] at h; subst h; exact ⟨[], rfl, rfl⟩
  | x :: xs, l, h => by
    cases x with
    | int k n =>
      cases k with
      | u8 =>
        simp [strOf] at h
        obtain ⟨l', h1, rfl⟩ := h
        obtain ⟨ns, rfl, rfl⟩ := strOf_ints h1
        exact ⟨n :: ns, rfl, rfl⟩
      | _ => simp [strOf] at h
    | _ => simp [strOf] at h

theorem relV_int {X : Ctx} {k : IntKind} {n : Int} {v : Value} (h : RelV X (.int k n) v) : v = .int k n := by cases h; rfl

theorem flat_ints (ns : List Int) : flat (ns.map (AV.int .u8)) = ns.map (AV.int .u8) := by
  simp only [flat]
  induction ns with
  | nil => rfl
  | cons n ns ih => simp [AV.cells, ih]

theorem sound_convB {P : Program} {X : Ctx} {src dst el : TypeId} (hs : P.underlying src = some (.slice el)) (he : P.underlying el = some (.int .u8)) (hd : P.underlying dst = some .string) {c : Cap} {s : Nat} {xs : List AV} {v : Value}
    (hx : RelV X (.sl c s xs) v) (hok : okc X.gens c = true) {l : List UInt8} (h : strOf xs = some l) : (convert src dst v).run P X.w = .ok (.string ⟨l.toArray⟩) X.w := by
  obtain ⟨ns, rfl, rfl⟩ := strOf_ints h
  obtain ⟨a, m, rfl, hm, ha⟩ := sl_len hx
  obtain ⟨_, hw, hne⟩ := sl_cells hx hok
  have conv := fun (b off cap : Nat) (hc : ∀ i, i < ns.length → X.w.cell? ⟨b, off + i, none⟩ = some (.int .u8 (ns.getD i 0))) => run_convert_bytes_arg (P := P) X.w src el hs he b off ns.length cap ns rfl hc dst hd
  by_cases h0 : ns = []
  · subst h0
    cases a with
    | none => exact (run_convert_bytes_nil (P := P) X.w src el hs he 0 m dst hd).trans rfl
    | some a =>
      simp only [List.map_nil, List.length_nil]
      rw [run_convert_bytes_string X.w src dst el _ _ _ hs he hd, run_bytesToString X.w a 0 m [] (by simp [loadCells, loadCellsFrom])]
      rfl
  · obtain ⟨b, off, rfl, vals, hc, hr⟩ := hne (by simpa using h0)
    rw [List.length_map]
    rw [conv b off m (fun i hi => by
      have hlen : (flat (ns.map (AV.int .u8))).length = ns.length := by rw [flat_ints]; simp
      rw [hc i (by omega)]
      have h1 := hr i (by omega)
      have h2 : (flat (ns.map (AV.int .u8)))[i]'(by omega) = AV.int .u8 ns[i] := by simp only [flat_ints]; simp
      rw [h2] at h1
      rw [relV_int h1]
      simp [List.getD_eq_getElem?_getD, hi])]
    rfl

theorem push_modify {α : Type} (xs : Array α) (x : α) (f : α → α) : (xs.push x).modify xs.size f = xs.push (f x) := by
  apply Array.ext
  · simp
  · intro i h1 h2
    rw [Array.getElem_modify]
    simp only [Array.size_modify, Array.size_push] at h1
    rw [Array.getElem_push, Array.getElem_push]
    by_cases h : i < xs.size
    · rw [if_neg (by omega), dif_pos h, dif_pos h]
    · rw [if_pos (by omega), dif_neg h, dif_neg h]

theorem sound_convS {P : Program} {γ : Gh} {st : St} {w : World} (hS : RelS γ st w) {src dst el : TypeId} (hd : P.underlying dst = some (.slice el)) (hs : P.underlying src = some .string) (he : P.underlying el = some (.int .u8)) {id : Nat} (hid : id < st.next) (hf : γ.fam id = none)
    (s : ByteArray) : ∃ γ' u w', (convert src dst (.string s)).run P w = .ok u w' ∧ Step γ st w γ' st w' (fun j => j ≠ id) ∧ RelV ⟨γ', st.gens, w'⟩ (.sl (.fam id (st.gens id) 0) 1 (bytesAV s)) u := by
  have hl : (bytesAV s).length = s.size := by simp only [bytesAV, List.length_map, Array.length_toList]; rfl
  have hge := grownCap_ge w s.size 0 el
  have hw : Wf 1 (bytesAV s) := fun x hx => by
    simp only [bytesAV, List.mem_map] at hx
    obtain ⟨b, _, rfl⟩ := hx
    exact ⟨rfl, rfl⟩
  have hfl : flat (bytesAV s) = bytesAV s := by
    simp only [flat, bytesAV]
    induction s.data.toList with
    | nil => rfl
    | cons b l ih => simp [AV.cells, ih]
  have hstg : Step γ st w γ st w.drew (fun _ => True) := step_gens hS _ (fun _ => Nat.le_refl _) rfl ⟨rfl, rfl⟩
  let vs : Array Value := s.data.map (fun b => Value.int .u8 b.toNat) ++ Array.replicate (grownCap w s.size 0 el - s.size) (.int .u8 0)
  have hvs : vs.size = grownCap w s.size 0 el := by
    have : s.data.size = s.size := rfl
    simp only [vs, Array.size_append, Array.size_map, Array.size_replicate, this]; omega
  have hrun : (convert src dst (.string s)).run P w = .ok (.slice (some ⟨w.heap.size, 0, none⟩) s.size (grownCap w s.size 0 el)) ((w.drew.alloc (.cells vs el)).freeze ⟨w.heap.size, vs.size, none⟩ 1) := by
    have hshape : (w.drew.alloc (.cells vs el)).shape? w.heap.size = some (el, vs.size) := by
      have := heap_new w.drew (.cells vs el)
      simp only [World.shape?]
      rw [show (w.drew.alloc (.cells vs el)).heap[w.heap.size]? = some (.cells vs el) from this]
    have h1 : (choose (.appendCap s.size 0 el)).run P w = .ok (grownCap w s.size 0 el) w.drew := by rw [run_choose]; rfl
    have h2 : (newRow el vs).run P w.drew = .ok ⟨w.heap.size, 0, none⟩ (w.drew.alloc (.cells vs el)) := rfl
    have h3 : (markStringish ⟨w.heap.size, 0, none⟩).run P (w.drew.alloc (.cells vs el)) = .ok () ((w.drew.alloc (.cells vs el)).freeze ⟨w.heap.size, vs.size, none⟩ 1) := by
      simp only [markStringish, Sem.run_bind, run_shape, Result.andThen_ok, hshape, run_freeze]
    simp only [convert, Sem.run_bind, run_und hd, run_und hs, run_und he, Result.andThen_ok, Conv.stringToBytes, h1]
    rw [show (newRow el (Array.map (fun b => Value.int IntKind.u8 (b.toNat : Int)) s.data ++ Array.replicate (grownCap w s.size 0 el - s.size) (Value.int IntKind.u8 0))) = newRow el vs from rfl, h2]
    simp only [Result.andThen_ok]
    rw [h3]
    rfl
  have hheap : ((w.drew.alloc (.cells vs el)).freeze ⟨w.heap.size, vs.size, none⟩ 1).heap = w.heap.push (.cells vs el (vs.size, vs.size + 1)) := by
    unfold World.freeze
    rw [if_neg (by omega)]
    erw [push_modify]
    rfl
  obtain ⟨γ', h1, h2⟩ := step_fam (w' := (w.drew.alloc (.cells vs el)).freeze ⟨w.heap.size, vs.size, none⟩ 1) hstg.rel (id := id) hid hf hw (m := grownCap w s.size 0 el) (by omega) vs el (vs.size, vs.size + 1) hheap (by omega)
    (fun i hi => by
      have : ¬ (vs.size ≤ i) := by omega
      simp [this])
    (by unfold World.freeze; rw [if_neg (by omega)]; exact ⟨rfl, rfl⟩)
    (fun i hi => by
      refine RelV.mono hstg.le ?_
      have : (flat (bytesAV s))[i] = (bytesAV s)[i]'(by rw [hfl] at hi; exact hi) := by simp only [hfl]
      rw [this]
      rw [hfl] at hi
      have hi2 : i < s.data.size := by simpa [bytesAV] using hi
      simp only [bytesAV, List.getElem_map, Array.getElem_toList]
      rw [Array.getD_eq_getD_getElem?]
      simp only [vs]
      rw [Array.getElem?_append_left (by simpa using hi2), Array.getElem?_map, Array.getElem?_eq_getElem hi2]
      exact .int _ _)
  rw [hl] at h2
  exact ⟨γ', _, _, hrun, hstg.trans h1 (fun _ _ => trivial) (fun _ h => h), h2⟩

end Go.Ev
