/- Each operation of the evaluator is what the machine does: values built of parts; clear. -/
import Derived.Test.YtlidbfnamhgnlaaGreatDoorEvM
namespace Go.Ev
open Go

theorem foldl_set (off : Nat) : ∀ (l : List Value) (k : Nat) (arr : Array Value), off + k + l.length ≤ arr.size →
    ((l.zipIdx k).foldl (fun cs p => cs.setIfInBounds (off + p.2) p.1) arr).size = arr.size ∧
    ∀ j, ((l.zipIdx k).foldl (fun cs p => cs.setIfInBounds (off + p.2) p.1) arr)[j]? = if off + k ≤ j ∧ j < off + k + l.length then l[j - (off + k)]? else arr[j]? := by
  intro l
  induction l with
  | nil => intro k arr _; refine ⟨rfl, fun j => ?_⟩; rw [if_neg (by intro h; simp at h; omega)]; rfl
  | cons v l ih =>
    intro k arr h
    simp only [List.length_cons] at h
    obtain ⟨h1, h2⟩ := ih (k + 1) (arr.setIfInBounds (off + k) v) (by simp; omega)
    simp only [List.zipIdx_cons, List.foldl_cons]
    refine ⟨by rw [h1]; simp, fun j => ?_⟩
    rw [h2 j]
    simp only [List.length_cons]
    by_cases c1 : j = off + k
    · subst c1
      rw [if_neg (by omega), if_pos ⟨by omega, by omega⟩]
      simp [show off + k < arr.size by omega]
    · by_cases c2 : off + k ≤ j ∧ j < off + k + (l.length + 1)
      · rw [if_pos ⟨by omega, by omega⟩, if_pos c2]
        rw [show j - (off + k) = j - (off + (k + 1)) + 1 by omega]
        simp
      · rw [if_neg (by omega), if_neg c2]
        rw [Array.getElem?_setIfInBounds_ne (by omega)]

/-- What 'fill' does with one part. -/
def putCells (arr : Array Value) (off : Nat) (c : Array Value) : Array Value := c.zipIdx.foldl (fun cs (c, j) => cs.setIfInBounds (off + j) c) arr

theorem putCells_spec (arr : Array Value) (off : Nat) (c : Array Value) (h : off + c.size ≤ arr.size) : (putCells arr off c).size = arr.size ∧
    ∀ j, (putCells arr off c)[j]? = if off ≤ j ∧ j < off + c.size then c[j - off]? else arr[j]? := by
  have e : putCells arr off c = (c.toList.zipIdx 0).foldl (fun cs p => cs.setIfInBounds (off + p.2) p.1) arr := by
    simp only [putCells]
    rw [← Array.foldl_toList]
    simp [Array.toList_zipIdx]
  obtain ⟨h1, h2⟩ := foldl_set off c.toList 0 arr (by simpa using h)
  rw [e]
  refine ⟨h1, fun j => ?_⟩
  rw [h2 j]
  simp

theorem fill_cons (place : Nat → Option (Nat × Nat)) (arr : Array Value) (i : Nat) (v : Value) (rest : List (Nat × Value)) {off size : Nat} (hp : place i = some (off, size)) (hs : v.cells.size = size) (hle : off + size ≤ arr.size) :
    Instr.fill place arr ((i, v) :: rest) = Instr.fill place (putCells arr off v.cells) rest := by
  rw [Instr.fill]
  simp only [hp]
  have h1 : (decide (v.cells.size ≠ size) || decide (off + v.cells.size > arr.size)) = false := by simp [hs]; omega
  rw [h1]
  simp [putCells]

inductive All2 {α β : Type} (R : α → β → Prop) : List α → List β → Prop where
  | nil : All2 R [] []
  | cons {a : α} {b : β} {as : List α} {bs : List β} (h : R a b) (t : All2 R as bs) : All2 R (a :: as) (b :: bs)

theorem fill_rel {X : Ctx} (place : Nat → Option (Nat × Nat)) : ∀ (ps : List (Nat × Value)) (qs : List (Nat × Nat × AV)) (arr : Array Value) (cs cs' : List AV), cs.length = arr.size →
    (∀ i (h : i < cs.length), RelV X cs[i] (arr.getD i undef)) → All2 (fun p q => place p.1 = some (q.1, q.2.1) ∧ RelV X q.2.2 p.2) ps qs → fillA cs qs = some cs' →
    ∃ arr', Instr.fill place arr ps = some arr' ∧ cs'.length = arr'.size ∧ ∀ i (h : i < cs'.length), RelV X cs'[i] (arr'.getD i undef) := by
  intro ps
  induction ps with
  | nil =>
    intro qs arr cs cs' hl hr hall h
    cases hall
    simp [fillA] at h; subst h
    exact ⟨arr, rfl, hl, hr⟩
  | cons p ps ih =>
    intro qs arr cs cs' hl hr hall h
    cases hall with
    | @cons _ q _ qs hpq hall =>
    obtain ⟨i, v⟩ := p
    obtain ⟨off, sz, x⟩ := q
    obtain ⟨hp, hx⟩ := hpq
    simp only [fillA] at h
    split at h
    · rename_i hsz
      simp only [Option.bind_eq_some_iff] at h
      obtain ⟨cs1, h1, h2⟩ := h
      obtain ⟨hle, hlen, hget⟩ := setR_spec h1
      obtain ⟨hc1, hc2⟩ := cells_rel hx
      simp only at hp hc1 hc2 hsz hle
      obtain ⟨hp1, hp2⟩ := putCells_spec arr off v.cells (by omega)
      rw [fill_cons place arr i v ps hp (by omega) (by omega)]
      refine ih qs (putCells arr off v.cells) cs1 cs' (by omega) (fun j hj => ?_) hall h2
      have hg := hget j hj
      rw [List.getElem?_eq_getElem hj] at hg
      rw [Array.getD_eq_getD_getElem?, hp2 j]
      by_cases c : off ≤ j ∧ j < off + x.cells.length
      · rw [if_pos c, List.getElem?_eq_getElem (by omega)] at hg
        rw [if_pos (by omega), Option.some.inj hg]
        have := hc2 (j - off) (by omega)
        rwa [Array.getD_eq_getD_getElem?] at this
      · rw [if_neg c, List.getElem?_eq_getElem (by omega)] at hg
        rw [if_neg (by omega), Option.some.inj hg]
        have := hr j (by omega)
        rwa [Array.getD_eq_getD_getElem?] at this
    · cases h

theorem fill_all (sz : Nat) : ∀ (vs : List Value) (k : Nat) (arr : Array Value), (∀ v ∈ vs, v.cells.size = sz) → (k + vs.length) * sz ≤ arr.size →
    ∃ arr', Instr.fill (fun i => some (i * sz, sz)) arr ((vs.zipIdx k).map fun p => (p.2, p.1)) = some arr' ∧ arr'.size = arr.size ∧ (∀ j, j < k * sz → arr'[j]? = arr[j]?) ∧
      ∀ i (h : i < vs.length) j, j < sz → arr'[(k + i) * sz + j]? = (vs[i]).cells[j]? := by
  intro vs
  induction vs with
  | nil => intro k arr _ _; exact ⟨arr, rfl, rfl, fun _ _ => rfl, fun i h => absurd h (by simp)⟩
  | cons v vs ih =>
    intro k arr hv hle
    simp only [List.length_cons] at hle
    have e1 : (k + (vs.length + 1)) * sz = k * sz + sz + vs.length * sz := by rw [Nat.add_mul, Nat.add_mul]; omega
    have e2 : (k + 1 + vs.length) * sz = k * sz + sz + vs.length * sz := by rw [Nat.add_mul, Nat.add_mul]; omega
    have hvs := hv v (by simp)
    obtain ⟨hp1, hp2⟩ := putCells_spec arr (k * sz) v.cells (by omega)
    simp only [List.zipIdx_cons, List.map_cons]
    rw [fill_cons (fun i => some (i * sz, sz)) arr k v _ rfl hvs (by omega)]
    obtain ⟨arr', h1, h2, h3, h4⟩ := ih (k + 1) (putCells arr (k * sz) v.cells) (fun u hu => hv u (by simp [hu])) (by omega)
    have e3 : (k + 1) * sz = k * sz + sz := by rw [Nat.add_mul]; omega
    refine ⟨arr', h1, by omega, fun j hj => ?_, fun i hi j hj => ?_⟩
    · rw [h3 j (by omega), hp2 j, if_neg (by omega)]
    · cases i with
      | zero =>
        simp only [Nat.add_zero]
        rw [h3 _ (by omega), hp2, if_pos ⟨by omega, by omega⟩]
        simp
      | succ i =>
        have := h4 i (by simp at hi; omega) j hj
        rw [show k + 1 + i = k + (i + 1) by omega] at this
        simpa using this

theorem zip_of_range {α : Type} : ∀ (l : List (Nat × α)) (k : Nat), l.map (·.1) = List.range' k l.length → l = ((l.map (·.2)).zipIdx k).map fun p => (p.2, p.1) := by
  intro l
  induction l with
  | nil => intro k _; rfl
  | cons a l ih =>
    intro k h
    simp only [List.map_cons, List.length_cons, List.range'_succ, List.cons.injEq] at h
    obtain ⟨h1, h2⟩ := h
    simp only [List.map_cons, List.zipIdx_cons]
    rw [← ih (k + 1) h2]
    obtain ⟨i, v⟩ := a
    simp at h1; subst h1; rfl

theorem flat_get? {sz : Nat} {xs : List AV} (h : Wf sz xs) (j : Nat) (hj : j < (flat xs).length) : ∃ i k, ∃ (hi : i < xs.length), k < sz ∧ j = i * sz + k ∧ (flat xs)[j]? = (xs[i]).cells[k]? := by
  have hfl := flat_length h
  rcases Nat.eq_zero_or_pos sz with h0 | h0
  · rw [h0, Nat.mul_zero] at hfl; omega
  · have h1 : j / sz < xs.length := Nat.div_lt_of_lt_mul (by rw [Nat.mul_comm]; omega)
    have h2 := Nat.mod_lt j h0
    have h3 : j = j / sz * sz + j % sz := by rw [Nat.mul_comm]; exact (Nat.div_add_mod j sz).symm
    refine ⟨j / sz, j % sz, h1, h2, h3, ?_⟩
    have := flat_get h (j / sz) (j % sz) h1 h2
    rwa [← h3] at this

theorem sound_clear {P : Program} {γ : Gh} {st : St} {w : World} {nt : Nat} {e : Env} {a : Act} (hS : RelS γ st w) (hE : RelE γ st w nt e a) {t el : TypeId} {sz : Nat} (ht : P.underlying t = some (.slice el))
    {z : AV} {zv : Value} {inf : TypeInfo} (hinf : P.info? el = some inf) (hzv : inf.zero = some zv) (hz : avOf zv = some z) (hzl : z.cells.length = sz) (hzo : okCells z = true) {x : AV} {vx : Value}
    (hx : RelV ⟨γ, st.gens, w⟩ x vx) {pl : Pl} (hpl : ∀ a', pl = .fld a' → ∃ v, RelV ⟨γ, st.gens, w⟩ (a'.ev e) v) {e' : Env} {st' : St} {ty : TypeId}
    (h : evClear e st sz z x pl = some (e', st')) : ∃ w', (Builtin.clear_ #[t] ty #[vx]).run P w = .ok (.tuple #[]) w' ∧ Step γ st w γ st' w' (fun _ => True) ∧ RelE γ st' w' nt e' a := by
  have hzero : (zeroValue el).run P w = .ok zv w := by simp [zeroValue, typeInfo, hinf, hzv]
  cases x with
  | sl c s ys =>
    obtain ⟨av, m, rfl, hm, hav⟩ := sl_len hx
    by_cases hy : ys = []
    · subst hy
      simp [evClear] at h
      obtain ⟨rfl, rfl⟩ := h
      refine ⟨w, ?_, Step.refl hS _, hE⟩
      simp only [Builtin.clear_, List.length_nil]
      cases av <;> simp [run_und ht]
    · obtain ⟨b1, off1, rfl⟩ := hav hy
      cases c with
      | ro => cases ys <;> simp [evClear] at h hy
      | nil => cases ys <;> simp [evClear] at h hy
      | fam τ g o =>
        have h' : (match plGet e st pl with
          | some (.sl (.fam τ' g' o') s' xs) =>
            if τ' = τ ∧ g' = g ∧ o' ≤ o ∧ s' = s ∧ s = sz ∧ st.gens τ = g ∧ o - o' + ys.length ≤ xs.length then
              plSet e { st with gens := upd st.gens τ (g + 1) } (.sl (.fam τ (g + 1) o') s (xs.take (o - o') ++ (List.replicate ys.length z ++ xs.drop (o - o' + ys.length)))) pl
            else none
          | _ => none) = some (e', st') := by
          cases ys with
          | nil => exact absurd rfl hy
          | cons y ys => exact h
        split at h'
        · rename_i τ' g' o' s' xs hget
          split at h'
          · rename_i hcond
            obtain ⟨rfl, rfl, hoo, hs1, hs2, hg, hlen⟩ := hcond
            subst hs2
            subst hs1
            obtain ⟨vp, hvp, hput⟩ := place hS hE hpl hget
            obtain ⟨av, mv, rfl, _, _⟩ := sl_len hvp
            obtain ⟨_, hw, _⟩ := sl_cells hvp (by simp [okc, hg])
            have hypos : 0 < ys.length := List.length_pos_iff.2 hy
            have hne : xs ≠ [] := by
              intro h0
              have := congrArg List.length h0
              simp only [List.length_nil] at this
              omega
            have hwz : Wf s' (List.replicate ys.length z) := fun x hx => by
              rw [List.eq_of_mem_replicate hx]; exact ⟨hzl, hzo⟩
            have hw' : Wf s' (xs.take (o - o') ++ (List.replicate ys.length z ++ xs.drop (o - o' + ys.length))) := (hw.take _).append (hwz.append (hw.drop _))
            have hzr := relV_avOf ⟨γ, st.gens, w⟩ _ zv z (Nat.le_refl _) hz
            obtain ⟨hc1, hc2⟩ := cells_rel hzr
            have hzs : zv.cells.size = s' := by omega
            have hfz := flat_length hwz
            rw [List.length_replicate] at hfz
            have hus : (Builtin.zeroCells zv.cells ys.length).toList.length = ys.length * s' := by rw [Array.length_toList, zeroCells_size, hzs]
            have husr : ∀ i (h : i < (flat (List.replicate ys.length z)).length), RelV ⟨γ, st.gens, w⟩ (flat (List.replicate ys.length z))[i] ((Builtin.zeroCells zv.cells ys.length).toList.getD i undef) := by
              intro i hi
              obtain ⟨q, k, hq, hk, rfl, hqk⟩ := flat_get? hwz i hi
              rw [List.getElem?_eq_getElem hi, List.getElem_replicate, List.getElem?_eq_getElem (show k < z.cells.length by omega)] at hqk
              rw [Option.some.inj hqk]
              have h5 := hc2 k (by omega)
              have h6 : (Builtin.zeroCells zv.cells ys.length).toList.getD (q * s' + k) undef = zv.cells.getD k undef := by
                rw [List.getD_eq_getElem?_getD, Array.getElem?_toList]
                simp only [Builtin.zeroCells, hzs]
                rw [Array.getElem?_map, Array.getElem?_range]
                rw [if_pos (by rw [hfz] at hi; exact hi)]
                simp only [Option.map_some, Option.getD_some]
                have : (q * s' + k) % s' = k := by rw [Nat.add_comm, Nat.add_mul_mod_self_right, Nat.mod_eq_of_lt hk]
                rw [this, Array.getD_eq_getD_getElem?, Array.getElem?_eq_getElem (by omega)]
                simp [show k < zv.cells.size by omega]
              rw [h6]; exact h5
            have hone : ∀ u ∈ (Builtin.zeroCells zv.cells ys.length).toList, u.oneCell' = true := rel_oneCell hwz (by rw [hus, hfz]) husr
            have e1 : (o - o' + ys.length) * s' = (o - o') * s' + ys.length * s' := Nat.add_mul _ _ _
            have e2 : (o - o' + ys.length) * s' ≤ xs.length * s' := Nat.mul_le_mul_right _ hlen
            have hlen' : (xs.take (o - o') ++ (List.replicate ys.length z ++ xs.drop (o - o' + ys.length))).length = xs.length := by simp; omega
            obtain ⟨b, base, m', w', hf, hv, hst, hstep, hrel, hkeep⟩ := fam_write (P := P) hS hvp hg hne (p := (o - o') * s') (us := (Builtin.zeroCells zv.cells ys.length).toList) (ucs := flat (List.replicate ys.length z))
              (by rw [hus, hfz]) hone husr (by rw [hfz]; omega) hw' hlen' (fun j hj => by
                rw [flat_append, flat_append, flat_take hw, flat_drop hw, hfz]
                have hfx := flat_length hw
                rw [flat_length hw', hlen'] at hj
                by_cases c1 : j < (o - o') * s'
                · rw [List.getElem?_append_left (by simp; omega), if_neg (by omega), List.getElem?_take_of_lt c1]
                · rw [List.getElem?_append_right (by simp; omega)]
                  simp only [List.length_take]
                  rw [show min ((o - o') * s') (flat xs).length = (o - o') * s' by omega]
                  by_cases c2 : j < (o - o') * s' + ys.length * s'
                  · rw [List.getElem?_append_left (by omega), if_pos ⟨by omega, c2⟩]
                  · rw [List.getElem?_append_right (by omega), if_neg (by omega), List.getElem?_drop, hfz]
                    congr 1; omega)
            cases hv
            obtain ⟨k1, k2⟩ := hput hstep rfl hkeep hrel h'
            refine ⟨w', ?_, k1, k2⟩
            have ha0 : (⟨b1, off1, none⟩ : Addr) = ⟨b, base + o' * s' + (o - o') * s', none⟩ := by
              have hoz : base + o' * s' + (o - o') * s' = base + o * s' := by
                have : o * s' = o' * s' + (o - o') * s' := by rw [← Nat.add_mul]; congr 1; omega
                omega
              rw [hoz]
              cases hx with
              | slstale _ _ _ _ _ _ _ h => exact absurd hg (Nat.ne_of_gt h)
              | slfam0 => exact absurd rfl hy
              | slfam _ _ _ _ _ b2 base2 _ _ _ hf2 =>
                have hf3 : γ.fam τ' = some (b1, base2) := hf2
                rw [hf] at hf3; cases hf3; rfl
            rw [ha0]
            obtain ⟨q, hq⟩ : ∃ q, ys.length = q + 1 := ⟨ys.length - 1, by omega⟩
            simp only [Builtin.clear_]
            rw [hq] at hst ⊢
            simp [run_und ht, hzero, hst]
          · cases h'
        · cases h'
  | _ => simp [evClear] at h

end Go.Ev
