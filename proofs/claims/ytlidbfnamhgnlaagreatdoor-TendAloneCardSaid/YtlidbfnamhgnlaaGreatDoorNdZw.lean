/- TendAlone: the world of the witness. -/
import Derived.Test.YtlidbfnamhgnlaaGreatDoorCards
import Derived.Test.YtlidbfnamhgnlaaGreatDoorTie
import Derived.WalkKit
import Derived.ProofKit
import Derived.OpenShut
import Derived.Deep.DeepHandedRow
import Derived.Lib.LaidTab
import Derived.Test.YtlidbfnamhgnlaaGreatDoorNdZ
namespace Go.Proofs.YtlidbfnamhgnlaaGreatDoor.tendAlone
open Go.ChangeShapes Go.WideShapes Go.ChangeAt Go.RowKit

/-- Arguments for the witness: a node that holds nothing, and no step of the clock. -/
def none0 : Array Value := #[.agg #[.int .u64 0, .int .u16 0, .int .i64 0, .bool false, .slice none 0 0, .slice none 0 0, .slice none 0 0, .slice none 0 0, .slice none 0 0, .slice none 0 0, .slice none 0 0, .int .u32 0, .int .i64 0, .int .i64 0], .int .u8 0]

/-- What the second table holds. -/
def accepts : Array Value := #[.int .u8 128, .int .u8 191, .int .u8 160, .int .u8 191, .int .u8 128, .int .u8 159, .int .u8 144, .int .u8 191, .int .u8 128, .int .u8 143, .int .u8 0, .int .u8 0, .int .u8 0, .int .u8 0, .int .u8 0, .int .u8 0,
  .int .u8 0, .int .u8 0, .int .u8 0, .int .u8 0, .int .u8 0, .int .u8 0, .int .u8 0, .int .u8 0, .int .u8 0, .int .u8 0, .int .u8 0, .int .u8 0, .int .u8 0, .int .u8 0, .int .u8 0, .int .u8 0]

/-- A table's block, holding other cells. -/
def relaid (cs : Array Value) : Obj → Obj
  | .cells _ t frozen => .cells cs t frozen
  | o => o

/-- What the first table holds. -/
def firsts : Array Value := (Go.Pinned.utf8FirstZ.map fun (n : Nat) => Value.int .u8 (Int.ofNat n)).toArray

/-- A world for the witness: the settled one, the two tables (blocks 0 and 1) holding what is laid. -/
noncomputable def laidWorld (os : Os) : World :=
  { World.holding Tryz.prog os ⟨#[], #[], []⟩ with heap := ((World.holding Tryz.prog os ⟨#[], #[], []⟩).heap.modify 0 (relaid firsts)).modify 1 (relaid accepts) }

theorem laid_met (os : Os) : laidMet Tryz.prog Rows.tendAloneRow.laid ((laidWorld os).forCall (fun _ _ => 0) ⟨#[], none0, []⟩).memory :=
  laidMet_of_run' 8 (by kernel_rfl) (by kernel_rfl)

theorem reads (os : Os) {H : Type} (enc : TypeId × Value → H) : ∃ places, DataW.whole enc Tryz.prog ((laidWorld os).forCall (fun _ _ => 0) ⟨#[], none0, []⟩).memory Tryz.f16.params.toList Rows.tendAloneSpec.vars false none0.toList 8 =
    some ([.agg [.agg [.lit (.int .u64 0), .lit (.int .u16 0)], .lit (.int .i64 0), .lit (.bool false), .nil, .nil, .nil, .nil, .nil, .nil, .nil, .lit (.int .u32 0), .lit (.int .i64 0), .lit (.int .i64 0)], .lit (.int .u8 0)], [], places) :=
  ⟨[], by kernel_rfl⟩

set_option maxRecDepth 100000 in
theorem lifted (os : Os) (started : os.Started) (H : Type) (enc : TypeId × Value → H) (F : Stop.Interp) :
    ReturnsInHanded {} Tryz.checked os 16 .any ((OpenSpec.ofChange Rows.tendAloneSpec).preRow enc Tryz.prog Tryz.f16 Rows.tendAloneRow.domain false Rows.tendAloneRow.laid) (((OpenSpec.ofChange Rows.tendAloneSpec).at F).post enc Tryz.prog Tryz.f16 false true false false) := by
  obtain ⟨places, hx⟩ := reads os enc
  refine returnsInHanded_of_row (C := Tryz.checked) (s := OpenSpec.ofChange Rows.tendAloneSpec) own started (by kernel_rfl) Tryz.func16
    (witness_row_at (enc := enc) (C := Tryz.checked) false (laidWorld os) none0 rfl (by kernel_rfl) (by kernel_rfl) (by kernel_rfl)
      (OpenSpec.preRow_of_cond 8 hx (by kernel_rfl) (fun k hk => by cases hk) (by kernel_rfl) (laid_met os))) ?_
  intro W base args ds gs before hval hW _ _ _ _ _ _
  exact contract H enc W base args ds gs before hval hW

end Go.Proofs.YtlidbfnamhgnlaaGreatDoor.tendAlone
