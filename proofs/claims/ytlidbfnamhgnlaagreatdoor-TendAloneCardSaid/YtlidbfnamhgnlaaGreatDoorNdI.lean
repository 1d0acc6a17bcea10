/- The table holds: what is met by hand, and the check that was run once. -/
import Derived.Test.YtlidbfnamhgnlaaGreatDoorNdH
set_option maxRecDepth 1000000
namespace Go.Ev
open Go
open Go.Ev.Enc (av)

theorem deletePrim_ok {P : Program} (hm : P.follows .mixedOrders = true) {f : Nat} {fn : Func} (hf : P.funcs[f]? = some fn) (hnm : (fn.name == "runtime.NumGoroutine") = false) {t it : TypeId} {M : Meta} (hb : fn.body = some (deleteBody t it M)) (hnt : fn.ntmps = 33)
    (hres : fn.results = #[.tmp 6]) (hit : P.underlying it = some (.int .i64)) {sz lim lim' : Nat} (hT : ListType P t sz lim) (hB : Region.lexTailB .any (delD t M).toArray 6 = true) (hl : lim' ≤ lim) : okSpec P (f, deletePrim sz lim') := by
  intro args st v st' h
  simp only [deletePrim] at h
  split at h
  · rename_i τ g o s xs i j
    split at h
    · rename_i hc
      simp only [Bool.and_eq_true, decide_eq_true_eq] at hc
      obtain ⟨⟨⟨⟨⟨rfl, h2⟩, h3⟩, h4⟩, h5⟩, h6⟩ := hc
      obtain ⟨i, rfl⟩ := Int.eq_ofNat_of_zero_le h3
      obtain ⟨j, rfl⟩ := Int.eq_ofNat_of_zero_le (show 0 ≤ j by omega)
      cases h
      exact delete_ok hm hf hnm hb hnt hres hit hT hB h2 (by omega) (by omega) (by omega)
    · cases h
  · cases h

theorem insertPrim_ok {P : Program} (hm : P.follows .mixedOrders = true) {f : Nat} {fn : Func} (hf : P.funcs[f]? = some fn) (hnm : (fn.name == "runtime.NumGoroutine") = false) {t it : TypeId} {M : Meta} {rest : Code} (hb : fn.body = some (insertBody t it M rest)) (hnt : fn.ntmps = 95)
    (hres : fn.results = #[.tmp 6]) (hit : P.underlying it = some (.int .i64)) {sz lim lim' : Nat} (hT : ListType P t sz lim) (hl : lim' ≤ lim) : okSpec P (f, insertPrim sz lim') := by
  intro args st v st' h
  simp only [insertPrim] at h
  split at h
  · rename_i c s xs i c' s' ys
    split at h
    · rename_i hc
      simp only [Bool.and_eq_true, Bool.or_eq_true, decide_eq_true_eq, Bool.not_eq_true'] at hc
      obtain ⟨⟨⟨⟨⟨⟨h1, h2⟩, h3⟩, h4⟩, h5⟩, h6⟩, rfl⟩ := hc
      cases h
      obtain ⟨st1, h7, rfl⟩ := insert_end_ok hm hf hnm hb hnt hres hit hT h1 h2 h3 (.inl h4) (ys := ys) (by rintro rfl; simp [isNone'] at h5) (xs := xs) (by omega)
      exact h7
    · cases h
  · cases h

namespace Nd

theorem d272 : okSpec P (272, deletePrim 14 1000000000) := deletePrim_ok (fn := Go.Proofs.Tryz.f272) (t := 30) (it := 3) (M := metaOf (regsOf (Go.Proofs.Tryz.f272.body.getD .skip))) mixed (by kernel_rfl) (by kernel_rfl) (by kernel_rfl) (by kernel_rfl) (by kernel_rfl) (by kernel_rfl) (lim := 1099511627776) (listTy_ok (by kernel_rfl)) (by kernel_rfl) (by decide)
theorem d213 : okSpec P (213, deletePrim 3 1000000000) := deletePrim_ok (fn := Go.Proofs.Tryz.f213) (t := 26) (it := 3) (M := metaOf (regsOf (Go.Proofs.Tryz.f213.body.getD .skip))) mixed (by kernel_rfl) (by kernel_rfl) (by kernel_rfl) (by kernel_rfl) (by kernel_rfl) (by kernel_rfl) (lim := 5864062014805) (listTy_ok (by kernel_rfl)) (by kernel_rfl) (by decide)
theorem i192 : okSpec P (192, insertPrim 2 1000000000) := insertPrim_ok (fn := Go.Proofs.Tryz.f192) (t := 28) (it := 3) (M := metaOf (regsOf (Go.Proofs.Tryz.f192.body.getD .skip))) (rest := restOf (Go.Proofs.Tryz.f192.body.getD .skip)) mixed (by kernel_rfl) (by kernel_rfl) (by kernel_rfl) (by kernel_rfl) (by kernel_rfl) (by kernel_rfl) (lim := 4398046511104) (listTy_ok (by kernel_rfl)) (by decide)
theorem i211 : okSpec P (211, insertPrim 3 1000000000) := insertPrim_ok (fn := Go.Proofs.Tryz.f211) (t := 26) (it := 3) (M := metaOf (regsOf (Go.Proofs.Tryz.f211.body.getD .skip))) (rest := restOf (Go.Proofs.Tryz.f211.body.getD .skip)) mixed (by kernel_rfl) (by kernel_rfl) (by kernel_rfl) (by kernel_rfl) (by kernel_rfl) (by kernel_rfl) (lim := 5864062014805) (listTy_ok (by kernel_rfl)) (by decide)
theorem i285 : okSpec P (285, insertPrim 3 1000000000) := insertPrim_ok (fn := Go.Proofs.Tryz.f285) (t := 27) (it := 3) (M := metaOf (regsOf (Go.Proofs.Tryz.f285.body.getD .skip))) (rest := restOf (Go.Proofs.Tryz.f285.body.getD .skip)) mixed (by kernel_rfl) (by kernel_rfl) (by kernel_rfl) (by kernel_rfl) (by kernel_rfl) (by kernel_rfl) (lim := 5864062014805) (listTy_ok (by kernel_rfl)) (by decide)

/-- What a check of closed inputs is run with. -/
def primA : Nat → Option (List AV → St → Option (AV × St))
  | 69 => some (clonePrim 3 1000000000)
  | 70 => some (clonePrim 3 1000000000)
  | 71 => some (clonePrim 2 1000000000)
  | 72 => some (clonePrim 7 1000000000)
  | 73 => some (clonePrim 14 1000000000)
  | 74 => some (clonePrim 6 1000000000)
  | 223 => some (clonePrim 2 1000000000)
  | 192 => some (insertPrim 2 1000000000)
  | 211 => some (insertPrim 3 1000000000)
  | 285 => some (insertPrim 3 1000000000)
  | 213 => some (deletePrim 3 1000000000)
  | 272 => some (deletePrim 14 1000000000)
  | _ => none

theorem primA_ok : ∀ f p, primA f = some p → okSpec P (f, p) := by
  intro f p h
  unfold primA at h
  split at h <;> first | (cases h; done) | (cases h; first | exact c69 | exact c70 | exact c71 | exact c72 | exact c73 | exact c74 | exact c223 | exact i192 | exact i211 | exact i285 | exact d213 | exact d272)

theorem run62 : isTrue' (evF primA (progF P) 60 62 [] st0) = true := by kernel_rfl

theorem awake62 (st : St) : CallOk P 62 [] st (.bool true) st := by
  obtain ⟨st1, h⟩ := isTrue'_ok run62
  exact (evF_sound mixed (fun f p hp => primA_ok f p hp) (fun f mf h => progF_ok f mf h) 60 62 [] st0 _ _ h).closed_bool st

theorem ran62 : okSpec P (62, ranTrue) := by
  intro args st v st' h
  simp only [ranTrue] at h
  split at h
  · cases h; exact awake62 _
  · cases h

theorem tblOk : TblOk P T where
  F f mf h := ⟨mixed, progF_ok f mf (by simpa only [T] using h)⟩
  prim c f p h := by
    simp only [T, mode] at h
    split at h
    all_goals first
      | (cases h; first | exact c69 | exact c70 | exact c71 | exact c72 | exact c73 | exact c74 | exact c223 | exact d272 | exact ran62)
      | (cases h; done)
      | (split at h <;> cases h)

/-- The law, whatever the node: the machine's call answers true. -/
theorem alone_ok (n : NodeV) (t : Int) (h0 : 0 ≤ t) (h1 : t < 256) (st : St) : CallOk P 16 [av n, .int .u8 t] st (.bool true) st := (alone_tells n t h0 h1).ok tblOk st

end Nd
end Go.Ev
