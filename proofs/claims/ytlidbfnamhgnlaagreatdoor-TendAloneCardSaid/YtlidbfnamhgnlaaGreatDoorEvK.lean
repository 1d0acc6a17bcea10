/- Each operation of the evaluator is what the machine does: appending. -/
import Derived.Test.YtlidbfnamhgnlaaGreatDoorEvJ
namespace Go.Ev
open Go

theorem heap_alloc_eq (w : World) (o : Obj) : (w.alloc o).heap = w.heap.push o := rfl

theorem byteArray_firstCells (s : ByteArray) : ((s.extract 0 s.size).data.map fun b => Value.int .u8 b.toNat) = (s.data.toList.map fun b => Value.int .u8 b.toNat).toArray := by
  have h1 : (s.extract 0 s.size).data = s.data := by
    rw [ByteArray.data_extract]
    exact Array.extract_size
  rw [h1]
  apply Array.ext'
  simp only [Array.toList_map]

theorem src_cells {P : Program} {X : Ctx} {sz : Nat} {y : AV} {ys : List AV} {vy : Value} (hy : RelV X y vy) (h : srcOf X.gens sz y = some ys) :
    Wf sz ys ∧ (∀ w2 : World, (Builtin.lenOf vy).run P w2 = .ok ys.length w2) ∧ ∃ news : List Value, news.length = (flat ys).length ∧
      (∀ w2 : World, w2.heap = X.w.heap → (Builtin.firstCells sz ys.length vy).run P w2 = .ok news.toArray w2) ∧ ∀ i (h : i < (flat ys).length), RelV X (flat ys)[i] (news.getD i undef) := by
  cases y <;> simp only [srcOf, reduceCtorEq] at h
  · rename_i s
    split at h
    · rename_i h1
      subst h1
      cases hy
      simp at h; subst h
      have hfl : flat (bytesAV s) = bytesAV s := by
        simp only [flat, bytesAV]
        induction s.data.toList with
        | nil => rfl
        | cons b l ih => simp [AV.cells, ih]
      have hl : (bytesAV s).length = s.size := by simp only [bytesAV, List.length_map, Array.length_toList]; rfl
      refine ⟨?_, fun w2 => by simp [Builtin.lenOf, hl], s.data.toList.map fun b => Value.int .u8 b.toNat, by rw [hfl]; simp [bytesAV], fun w2 _ => ?_, fun i hi => ?_⟩
      · intro x hx
        simp only [bytesAV, List.mem_map] at hx
        obtain ⟨b, _, rfl⟩ := hx
        exact ⟨rfl, rfl⟩
      · simp only [Builtin.firstCells, Sem.run_pure, hl]
        rw [byteArray_firstCells]
      · have : (flat (bytesAV s))[i] = (bytesAV s)[i]'(by rw [hfl] at hi; exact hi) := by simp only [hfl]
        rw [this]
        simp only [bytesAV, List.getElem_map]
        rw [hfl] at hi
        simp only [bytesAV, List.length_map] at hi
        rw [List.getD_eq_getElem?_getD, List.getElem?_map, List.getElem?_eq_getElem hi]
        exact .int _ _
    · cases h
  · rename_i c s xs
    split at h
    · rename_i hcond
      obtain ⟨hok, hs⟩ := hcond
      simp at h; subst h
      obtain ⟨a, m, rfl, hm, ha⟩ := sl_len hy
      obtain ⟨_, hw, hne⟩ := sl_cells hy hok
      by_cases hx : xs = []
      · subst hx
        refine ⟨Wf.nil _, fun w2 => rfl, [], rfl, fun w2 _ => ?_, fun i hi => absurd hi (by simp [flat])⟩
        cases a <;> simp [Builtin.firstCells, loadCells, loadCellsFrom]
      · obtain rfl : s = sz := by simpa [hx] using hs
        obtain ⟨b, off, rfl, vals, hc, hr⟩ := hne hx
        have hfl := flat_length hw
        refine ⟨hw, fun w2 => rfl, (List.range (xs.length * s)).map vals, by simp [hfl], fun w2 h2 => ?_, fun i hi => ?_⟩
        · simp only [Builtin.firstCells]
          rw [run_loadCells w2 _ _ vals (fun j hj => by
            rw [add_at]
            have := hc j (by omega)
            simp only [World.cell?, h2] at this ⊢
            exact this)]
        · have : ((List.range (xs.length * s)).map vals).getD i undef = vals i := by
            rw [List.getD_eq_getElem?_getD, List.getElem?_map, List.getElem?_range (by omega)]; rfl
          rw [this]
          exact hr i hi
    · cases h

theorem rel_oneCell {X : Ctx} {sz : Nat} {ys : List AV} {news : List Value} (hw : Wf sz ys) (hl : news.length = (flat ys).length) (hr : ∀ i (h : i < (flat ys).length), RelV X (flat ys)[i] (news.getD i undef)) :
    ∀ u ∈ news, u.oneCell' = true := by
  intro u hu
  obtain ⟨i, hi, rfl⟩ := List.mem_iff_getElem.1 hu
  have := hr i (by omega)
  rw [List.getD_eq_getElem?_getD, List.getElem?_eq_getElem hi] at this
  exact this.oneCell (flat_scalar hw _ (List.getElem_mem _))

/-- Only the generations go on. -/
theorem step_gens {γ : Gh} {st : St} {w w' : World} (hS : RelS γ st w) (g' : Nat → Nat) (hg : ∀ τ, st.gens τ ≤ g' τ) (hh : w'.heap = w.heap) (hq : Still w w') : Step γ st w γ { st with gens := g' } w' (fun _ => True) := by
  have hle : Le ⟨γ, st.gens, w⟩ ⟨γ, g', w'⟩ := le_change (fun _ => False) (by rw [hh]; exact Nat.le_refl _) (fun b _ _ => ⟨by rw [hh], rfl⟩) (fun _ _ h => h.elim) (fun _ _ h => h) (fun _ _ _ h => h) hg hq
  refine ⟨hle, ?_, fun _ _ => ⟨rfl, rfl, fun _ => ⟨rfl, rfl⟩⟩, Nat.le_refl _⟩
  refine hS.keep hle rfl rfl rfl rfl (fun b i hb ho => ⟨by rw [hh], ho⟩) (fun τ b base h => ?_) (fun b hb => hS.free b (by rw [hh] at hb; exact hb))
  have := hS.inf τ b base h; rw [hh]; exact this

theorem appGens_le (g : Nat → Nat) (c : Cap) (h : appOk g c = true) (τ : Nat) : g τ ≤ appGens g c τ := by
  cases c with
  | fam τ' g' o =>
    simp only [appOk, beq_iff_eq] at h
    simp only [appGens, upd]
    split
    · rename_i e; subst e; omega
    · exact Nat.le_refl _
  | _ => exact Nat.le_refl _

theorem zeroCells_size (z : Array Value) (n : Nat) : (Builtin.zeroCells z n).size = n * z.size := size_zeroCells z n

theorem sound_append {P : Program} {γ : Gh} {st : St} {w : World} (hS : RelS γ st w) {t t' ty e : TypeId} {i : TypeInfo} {z : Value} {sz id : Nat} (ht : P.underlying t = some (.slice e))
    (ht' : (∃ e', P.underlying t' = some (.slice e')) ∨ P.underlying t' = some .string) (hi : P.info? e = some i) (hz : i.zero = some z) (hsz : i.size = sz) (hzs : z.cells.size = sz) (hpos : 0 < sz)
    (hid : id < st.next) (hf : γ.fam id = none) {c : Cap} {s : Nat} {xs ys : List AV} {y : AV} {vx vy : Value} (hx : RelV ⟨γ, st.gens, w⟩ (.sl c s xs) vx) (hy : RelV ⟨γ, st.gens, w⟩ y vy)
    (hsrc : srcOf st.gens sz y = some ys) (hok : appOk st.gens c = true) (hs : s = sz ∨ c = .nil) (hlim : xs.length + ys.length ≤ 140737488355328 / max i.bytes 1) :
    ∃ γ' u w', (Builtin.append_ #[t, t'] ty #[vx, vy]).run P w = .ok u w' ∧ Step γ st w γ' { st with gens := appGens st.gens c } w' (fun j => j ≠ id) ∧
      RelV ⟨γ', appGens st.gens c, w'⟩ (.sl (.fam id (appGens st.gens c id) 0) sz (xs ++ ys)) u := by
  subst hsz
  obtain ⟨hwy, hlen, news, hnl, hnr, hnv⟩ := src_cells (P := P) hy hsrc
  have hfy := flat_length hwy
  have hone := rel_oneCell hwy hnl hnv
  have hbytes : (xs.length + ys.length) * i.bytes ≤ 140737488355328 := by
    have h1 : (xs.length + ys.length) * max i.bytes 1 ≤ 140737488355328 := Nat.le_trans (Nat.mul_le_mul_right _ hlim) (Nat.div_mul_le_self _ _)
    exact Nat.le_trans (Nat.mul_le_mul_left _ (Nat.le_max_left _ _)) h1
  have hsmall : xs.length + ys.length ≤ 140737488355328 := Nat.le_trans hlim (Nat.div_le_self _ _)
  have hstg : Step γ st w γ { st with gens := appGens st.gens c } w.drew (fun _ => True) := step_gens hS _ (appGens_le _ _ hok) rfl ⟨rfl, rfl⟩
  have hstg0 : Step γ st w γ { st with gens := appGens st.gens c } w (fun _ => True) := step_gens hS _ (appGens_le _ _ hok) rfl ⟨rfl, rfl⟩
  have hroomR : ∀ (base : Option Addr) (cap : Nat) (w' : World), xs.length + ys.length ≤ cap → (match base with
          | some a => (storeCells (a.add (xs.length * i.size)) news).run P w
          | none => .ok () w) = .ok () w' → (Builtin.append_ #[t, t'] ty #[.slice base xs.length cap, vy]).run P w = .ok (.slice base (xs.length + ys.length) cap) w' := by
    intro base cap w' hroom hst
    have hnew := hnr w rfl
    rcases ht' with ⟨e', ht'⟩ | ht' <;> cases base <;> simp only at hst <;>
      simp [Builtin.append_, run_underlying ht, run_underlying ht', sizeOf, typeInfo, hi, hlen, hroom, hnew, hst] <;> cases hst <;> rfl
  have hgrowR : ∀ (base : Option Addr) (cap : Nat) (old : Array Value), cap < xs.length + ys.length → (Builtin.firstCells i.size xs.length (.slice base xs.length cap)).run P w.drew = .ok old w.drew →
      (Builtin.append_ #[t, t'] ty #[.slice base xs.length cap, vy]).run P w = .ok (.slice (some ⟨w.heap.size, 0, none⟩) (xs.length + ys.length) (grownCap w (xs.length + ys.length) cap e))
        (w.drew.alloc (.cells (old ++ (news.toArray ++ Builtin.zeroCells z.cells (grownCap w (xs.length + ys.length) cap e - (xs.length + ys.length)))) e)) := by
    intro base cap old hg hfc
    have hnewd := hnr w.drew rfl
    have hroom : ¬ (xs.length + ys.length ≤ cap) := by omega
    have hfit := growslice_fits (need := xs.length + ys.length) (old := cap) (by omega) hbytes
    have hfit' : ¬ (281474976710656 < Builtin.nextslicecap (xs.length + ys.length) cap * i.bytes) := by omega
    have h63 : ¬ ((9223372036854775807 : Int) < (xs.length : Int) + (ys.length : Int)) := by omega
    rcases ht' with ⟨e', ht'⟩ | ht' <;>
      simp [Builtin.append_, run_underlying ht, run_underlying ht', sizeOf, typeInfo, zeroValue, hi, hz, hlen, hroom, hfit', h63, Question.forced, hfc, hnewd, newRow, grownCap]
  have hlenA : (xs ++ ys).length = xs.length + ys.length := List.length_append
  -- the row that has grown
  have hgrow : ∀ (base : Option Addr) (cap : Nat) (old : List Value), cap < xs.length + ys.length → Wf i.size xs → old.length = (flat xs).length →
      (∀ j (h : j < (flat xs).length), RelV ⟨γ, st.gens, w⟩ (flat xs)[j] (old.getD j undef)) → (Builtin.firstCells i.size xs.length (.slice base xs.length cap)).run P w.drew = .ok old.toArray w.drew →
      ∃ γ' u w', (Builtin.append_ #[t, t'] ty #[.slice base xs.length cap, vy]).run P w = .ok u w' ∧ Step γ st w γ' { st with gens := appGens st.gens c } w' (fun j => j ≠ id) ∧
      RelV ⟨γ', appGens st.gens c, w'⟩ (.sl (.fam id (appGens st.gens c id) 0) i.size (xs ++ ys)) u := by
    intro base cap old hcap hwx hol hov hfc
    have hfx := flat_length hwx
    have hge := grownCap_ge w (xs.length + ys.length) cap e
    have hadd : (xs.length + ys.length) * i.size = xs.length * i.size + ys.length * i.size := Nat.add_mul _ _ _
    obtain ⟨γ', h1, h2⟩ := step_fam (w' := w.drew.alloc (.cells (old.toArray ++ (news.toArray ++ Builtin.zeroCells z.cells (grownCap w (xs.length + ys.length) cap e - (xs.length + ys.length)))) e)) hstg.rel (id := id) hid hf (hwx.append hwy) (m := grownCap w (xs.length + ys.length) cap e) (by rw [hlenA]; exact hge)
      (old.toArray ++ (news.toArray ++ Builtin.zeroCells z.cells (grownCap w (xs.length + ys.length) cap e - (xs.length + ys.length)))) e (0, 0) rfl
      (by
        simp only [Array.size_append, List.size_toArray, zeroCells_size, hzs, hol, hnl, hfx, hfy]
        rw [Nat.sub_mul, hadd]
        have : (xs.length + ys.length) * i.size ≤ grownCap w (xs.length + ys.length) cap e * i.size := Nat.mul_le_mul_right _ hge
        omega)
      (fun j _ => by simp) ⟨rfl, rfl⟩
      (fun j hj => by
        refine RelV.mono hstg.le ?_
        have hj' := hj
        rw [flat_append, List.length_append] at hj'
        by_cases h : j < (flat xs).length
        · have : (flat (xs ++ ys))[j] = (flat xs)[j] := by simp only [flat_append]; rw [List.getElem_append_left h]
          rw [this]
          have := hov j h
          rw [Array.getD_eq_getD_getElem?, Array.getElem?_append_left (by simp; omega)]
          simpa [List.getD_eq_getElem?_getD] using this
        · have : (flat (xs ++ ys))[j] = (flat ys)[j - (flat xs).length]'(by omega) := by simp only [flat_append]; rw [List.getElem_append_right (by omega)]
          rw [this]
          have := hnv (j - (flat xs).length) (by omega)
          rw [Array.getD_eq_getD_getElem?, Array.getElem?_append_right (by simp; omega), Array.getElem?_append_left (by simp; omega)]
          simpa [List.getD_eq_getElem?_getD, hol] using this)
    rw [hlenA] at h2
    exact ⟨γ', _, _, hgrowR base cap old.toArray hcap hfc, hstg.trans h1 (fun _ _ => trivial) (fun _ h => h), h2⟩
  -- nothing is there, nothing comes
  have hnone : ∀ (base : Option Addr), xs = [] → ys = [] → ∃ γ' u w', (Builtin.append_ #[t, t'] ty #[.slice base xs.length 0, vy]).run P w = .ok u w' ∧ Step γ st w γ' { st with gens := appGens st.gens c } w' (fun j => j ≠ id) ∧
      RelV ⟨γ', appGens st.gens c, w'⟩ (.sl (.fam id (appGens st.gens c id) 0) i.size (xs ++ ys)) u := by
    intro base h1 h2
    subst h1; subst h2
    have hn0 : news = [] := List.eq_nil_of_length_eq_zero (by simpa [flat] using hnl)
    subst hn0
    refine ⟨γ, _, w, hroomR base 0 w (by simp) (by cases base <;> rfl), ⟨hstg0.le, hstg0.rel, fun _ _ => ⟨rfl, rfl, fun _ => ⟨rfl, rfl⟩⟩, Nat.le_refl _⟩, ?_⟩
    exact .slfam0 _ _ _ _ _ rfl (by rw [show γ.top = st.next from hS.top]; exact hid)
  have empty : ∀ (base : Option Addr), xs = [] → ∃ γ' u w', (Builtin.append_ #[t, t'] ty #[.slice base xs.length 0, vy]).run P w = .ok u w' ∧ Step γ st w γ' { st with gens := appGens st.gens c } w' (fun j => j ≠ id) ∧
      RelV ⟨γ', appGens st.gens c, w'⟩ (.sl (.fam id (appGens st.gens c id) 0) i.size (xs ++ ys)) u := by
    intro base h1
    by_cases h2 : ys = []
    · exact hnone base h1 h2
    · subst h1
      refine hgrow base 0 [] (by have := List.length_pos_iff.2 h2; simp; omega) (Wf.nil _) rfl (fun j h => absurd h (by simp [flat])) ?_
      cases base <;> simp [Builtin.firstCells, loadCells, loadCellsFrom]
  cases hx with
  | slnil => exact empty none rfl
  | slro0 => simp [appOk] at hok
  | slro => simp [appOk] at hok
  | slstale τ g o _ _ _ _ hg => simp only [appOk, beq_iff_eq] at hok; exact absurd hok (Nat.ne_of_gt hg)
  | slfam0 τ g o _ a hg => exact empty a rfl
  | slfam τ g o _ _ b base m vals hg hfm ho hb hw hm hroom hfr hc hr =>
    obtain rfl : s = i.size := by simpa using hs
    have hfx := flat_length hw
    have hgτ : st.gens τ = g := hg
    by_cases hcap : m < xs.length + ys.length
    · refine hgrow _ m ((List.range (xs.length * i.size)).map vals) hcap hw (by simp [hfx]) (fun j hj => ?_) ?_
      · have : ((List.range (xs.length * i.size)).map vals).getD j undef = vals j := by rw [List.getD_eq_getElem?_getD, List.getElem?_map, List.getElem?_range (by omega)]; rfl
        rw [this]; exact hr j hj
      · simp only [Builtin.firstCells]
        rw [run_loadCells w.drew _ _ vals (fun j hj => by rw [add_at]; simpa using hc j (by omega))]
    · have hmul : (xs.length + ys.length) * i.size ≤ m * i.size := Nat.mul_le_mul_right _ (by omega)
      have hadd : (xs.length + ys.length) * i.size = xs.length * i.size + ys.length * i.size := Nat.add_mul _ _ _
      have hst := run_storeCells P b news w (base + o * i.size + xs.length * i.size) 0 hone (fun j hj => by
        have h1 := hroom (xs.length * i.size + j) (by omega)
        have h2 := hfr (xs.length * i.size + j) (by omega)
        simp only [Nat.add_zero]
        rw [Nat.add_assoc (base + o * i.size)]
        exact ⟨h1, h2⟩)
      simp only [Nat.add_zero] at hst
      have hsz := setCells_size b news w (base + o * i.size + xs.length * i.size)
      have hoth := fun b' h => setCells_other b news w (base + o * i.size + xs.length * i.size) b' h
      have hfrz := fun a => setCells_frozen b news w (base + o * i.size + xs.length * i.size) a
      have hoff := setCells_cell_off b news w (base + o * i.size + xs.length * i.size)
      have hin := setCells_cell_in b news w (base + o * i.size + xs.length * i.size)
      have hst1 := setCells_still b news w (base + o * i.size + xs.length * i.size)
      generalize setCells w b (base + o * i.size + xs.length * i.size) news = w' at *
      have hidτ : τ ≠ id := by rintro rfl; rw [hfm] at hf; cases hf
      have hle : Le ⟨γ, st.gens, w⟩ ⟨{ box := γ.box, owner := fun b' => if b' = b then .fam id else γ.owner b', fam := upd γ.fam id (some (b, base + o * i.size)), top := γ.top }, appGens st.gens (.fam τ g o), w'⟩ :=
        le_change (fun b' => b' = b) (by omega) (fun b' _ h => ⟨hoth b' h, by simp [h]⟩)
          (fun b' _ h => by subst h; exact ⟨by rw [ho]; simp, fun τ' h' => by rw [ho] at h'; cases h'; simp [appGens, upd, hgτ]⟩) (fun _ _ h => h)
          (fun τ' b' base' h => by
            by_cases e : τ' = id
            · subst e; rw [hf] at h; cases h
            · simp [upd, e, h]) (appGens_le _ _ hok) hst1
      refine ⟨_, _, w', hroomR _ m w' (by omega) (by simp only [add_at]; exact hst), ⟨hle, ?_, fun j hj => by simp [upd, hj], Nat.le_refl _⟩, ?_⟩
      · refine hS.keep hle rfl rfl rfl rfl (fun b' id' _ h' => ?_) (fun τ' b' base' h => ?_) (fun b' hb' => ?_)
        · have hne : b' ≠ b := by rintro rfl; rw [ho] at h'; cases h'
          exact ⟨hoth b' hne, by simp [hne, h']⟩
        · by_cases e : τ' = id
          · subst e; simp [upd] at h; obtain ⟨rfl, _⟩ := h; exact ⟨by rw [hsz]; exact hb, hid⟩
          · simp [upd, e] at h; have := hS.inf τ' b' base' h; omega
        · have hb2 : b < w.heap.size := hb
          simp [show b' ≠ b by omega, hS.free b' (by omega)]
      · have hfA : (flat (xs ++ ys)).length = xs.length * i.size + ys.length * i.size := by rw [flat_append, List.length_append, hfx, hfy]
        have := RelV.slfam (X := ⟨{ box := γ.box, owner := fun b' => if b' = b then Own.fam id else γ.owner b', fam := upd γ.fam id (some (b, base + o * i.size)), top := γ.top }, appGens st.gens (.fam τ g o), w'⟩)
          id (appGens st.gens (.fam τ g o) id) 0 i.size (xs ++ ys) b (base + o * i.size) m (fun j => if j < xs.length * i.size then vals j else news.getD (j - xs.length * i.size) undef) rfl (by simp [upd]) (by simp)
          (by have hb2 : b < w.heap.size := hb; simp [hsz, hb2]) (hw.append hwy) (by rw [hlenA]; omega)
          (fun j hj => by
            simp only [Nat.zero_mul, Nat.add_zero]
            by_cases h1 : xs.length * i.size ≤ j ∧ j < xs.length * i.size + news.length
            · have := hin (j - xs.length * i.size) (fun k hk => by rw [Nat.add_assoc (base + o * i.size)]; exact hroom _ (by omega)) (by omega)
              rw [show base + o * i.size + xs.length * i.size + (j - xs.length * i.size) = base + o * i.size + j by omega] at this
              rw [this, List.getElem?_eq_getElem (by omega)]; rfl
            · rw [hoff _ (by omega)]; exact hroom j hj)
          (fun j hj => by simp only [Nat.zero_mul, Nat.add_zero]; rw [hfrz]; exact hfr j hj)
          (fun j hj => by
            simp only [Nat.zero_mul, Nat.add_zero]
            rw [hfA] at hj
            by_cases h1 : j < xs.length * i.size
            · rw [if_pos h1, hoff _ (by omega)]; exact hc j (by omega)
            · have := hin (j - xs.length * i.size) (fun k hk => by rw [Nat.add_assoc (base + o * i.size)]; exact hroom _ (by omega)) (by omega)
              rw [show base + o * i.size + xs.length * i.size + (j - xs.length * i.size) = base + o * i.size + j by omega] at this
              rw [if_neg h1, this, List.getD_eq_getElem?_getD, List.getElem?_eq_getElem (by omega)]; rfl)
          (fun j hj => by
            refine RelV.mono hle ?_
            have hj' := hj
            rw [hfA] at hj'
            by_cases h : j < xs.length * i.size
            · have : (flat (xs ++ ys))[j] = (flat xs)[j]'(by omega) := by simp only [flat_append]; rw [List.getElem_append_left (by omega)]
              rw [this, if_pos h]
              exact hr j (by omega)
            · have : (flat (xs ++ ys))[j] = (flat ys)[j - (flat xs).length]'(by omega) := by simp only [flat_append]; rw [List.getElem_append_right (by omega)]
              have e9 : j - xs.length * i.size = j - (flat xs).length := by rw [hfx]
              rw [this, if_neg h, e9]
              exact hnv (j - (flat xs).length) (by omega)) (by rw [show _ = st.next from hS.top]; exact hid)
        rw [hlenA] at this
        simpa using this

end Go.Ev
