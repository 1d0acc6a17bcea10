/- How the functions of the program are called; the list functions of Go's library that are met by hand. -/
import Derived.Test.YtlidbfnamhgnlaaGreatDoorNdM
namespace Go.Ev
open Go
open Enc (av)

theorem clonePrim_ok {P : Program} (hm : P.follows .mixedOrders = true) {f : Nat} {fn : Func} (hf : P.funcs[f]? = some fn) (hnm : (fn.name == "runtime.NumGoroutine") = false) {t bt : TypeId} {p0 p1 p2 p3 p4 : String} {al : Array Edge}
    (hb : fn.body = some (cloneBody t bt p0 p1 p2 p3 p4 al)) (hnt : fn.ntmps = 8) (hres : fn.results = #[.tmp 2]) {sz lim lim' : Nat} (hT : ListType P t sz lim) (hl : lim' ≤ lim) : okSpec P (f, clonePrim sz lim') := by
  intro args st v st' h
  simp only [clonePrim] at h
  split at h
  · rename_i c s xs
    split at h
    · rename_i hc
      simp only [Bool.and_eq_true, Bool.or_eq_true, decide_eq_true_eq] at hc
      cases h
      exact clone_ok hm hf hnm hb hnt hres hT hc.1.1 (hc.1.2.imp id isNone'_ok) (by omega)
    · cases h
  · cases h

theorem clonePrim_eq {α : Type} [Enc α] {sz lim : Nat} {st : St} {v : AV} {xs : List α} (h : Rd st v xs) (hs : sz = Enc.sz α) (hl : xs.length ≤ lim) :
    clonePrim sz lim [v] st = some (.sl (.fam st.next (st.gens st.next) 0) sz (xs.map av), ⟨st.next + 1, st.boxes, st.iters, st.gens⟩) := by
  obtain ⟨c, s, rfl, h2, h3⟩ := h.ex
  have h4 : okc st.gens c = true := by
    rcases h3 with rfl | ⟨rfl, _⟩ | ⟨τ, g, o, rfl, h4, h5⟩
    · rfl
    · rfl
    · simp [okc, h5]
  have h5 : (decide (s = sz) || isNone' (xs.map av)) = true := by
    rcases h2 with rfl | rfl
    · simp [hs]
    · simp [isNone']
  simp [clonePrim, h4, h5, hl]

namespace Nd

theorem mixed : P.follows .mixedOrders = true := by kernel_rfl

theorem c69 : okSpec P (69, clonePrim 3 1000000000) := clonePrim_ok (fn := Go.Proofs.Tryz.f69) mixed (by kernel_rfl) (by kernel_rfl) (hb := rfl) rfl rfl (lim := 5864062014805) (listTy_ok (by kernel_rfl)) (by decide)
theorem c70 : okSpec P (70, clonePrim 3 1000000000) := clonePrim_ok (fn := Go.Proofs.Tryz.f70) mixed (by kernel_rfl) (by kernel_rfl) (hb := rfl) rfl rfl (lim := 5864062014805) (listTy_ok (by kernel_rfl)) (by decide)
theorem c71 : okSpec P (71, clonePrim 2 1000000000) := clonePrim_ok (fn := Go.Proofs.Tryz.f71) mixed (by kernel_rfl) (by kernel_rfl) (hb := rfl) rfl rfl (lim := 4398046511104) (listTy_ok (by kernel_rfl)) (by decide)
theorem c72 : okSpec P (72, clonePrim 7 1000000000) := clonePrim_ok (fn := Go.Proofs.Tryz.f72) mixed (by kernel_rfl) (by kernel_rfl) (hb := rfl) rfl rfl (lim := 2513169434916) (listTy_ok (by kernel_rfl)) (by decide)
theorem c73 : okSpec P (73, clonePrim 14 1000000000) := clonePrim_ok (fn := Go.Proofs.Tryz.f73) mixed (by kernel_rfl) (by kernel_rfl) (hb := rfl) rfl rfl (lim := 1099511627776) (listTy_ok (by kernel_rfl)) (by decide)
theorem c74 : okSpec P (74, clonePrim 6 1000000000) := clonePrim_ok (fn := Go.Proofs.Tryz.f74) mixed (by kernel_rfl) (by kernel_rfl) (hb := rfl) rfl rfl (lim := 2199023255552) (listTy_ok (by kernel_rfl)) (by decide)
theorem c223 : okSpec P (223, clonePrim 2 1000000000) := clonePrim_ok (fn := Go.Proofs.Tryz.f223) mixed (by kernel_rfl) (by kernel_rfl) (hb := rfl) rfl rfl (lim := 8796093022208) (listTy_ok (by kernel_rfl)) (by decide)

/-- A check that was run once. -/
def ranTrue : List AV → St → Option (AV × St)
  | [], st => some (.bool true, st)
  | _, _ => none

def mode (c f : Nat) : Mode :=
  match f with
  | 69 => .prim (clonePrim 3 1000000000)
  | 70 => .prim (clonePrim 3 1000000000)
  | 71 => .prim (clonePrim 2 1000000000)
  | 72 => .prim (clonePrim 7 1000000000)
  | 73 => .prim (clonePrim 14 1000000000)
  | 74 => .prim (clonePrim 6 1000000000)
  | 223 => .prim (clonePrim 2 1000000000)
  | 272 => .prim (deletePrim 14 1000000000)
  | 62 => .prim ranTrue
  | 20 => match c with
    | 101 => .keep
    | 200 => .keep
    | 263 => .keep
    | 239 => .keep
    | 159 => .keep
    | 116 => .keep
    | _ => .pure
  | 263 => .keep
  | 142 => .raw
  | 190 => .raw
  | 261 => .raw
  | 266 => .raw
  | 206 => .raw
  | 262 => .raw
  | 207 => .raw
  | 269 => .raw
  | 169 => .raw
  | 214 => .keep
  | 168 => .keep
  | 116 => .keep
  | 144 => .keep
  | 147 => .keep
  | 209 => .keep
  | 230 => .keep
  | 155 => .keep
  | 118 => .keep
  | 158 => .keep
  | 164 => .keep
  | 165 => .keep
  | 240 => .keep
  | _ => .pure

noncomputable def T : Tbl := ⟨progF P, mode⟩

theorem TF {n : Nat} {m : MF} (h : progF P n = some m) : T.F n = some m := by simp only [T]; exact h

end Nd
end Go.Ev
