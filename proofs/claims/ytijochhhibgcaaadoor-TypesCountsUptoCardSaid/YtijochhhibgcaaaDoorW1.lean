/- The witness: a world in which the tables lie as the start lays them. -/
import Derived.Test.YtijochhhibgcaaaDoorCards
import Derived.Test.YtijochhhibgcaaaDoorTie
import Derived.WalkKit
import Derived.ProofKit
import Derived.OpenShut
import Derived.Deep.DeepHandedRow
import Derived.Deep.DeepWitnessRowRef
namespace Go.Proofs.YtijochhhibgcaaaDoor.Wit
open Go Go.ChangeShapes Go.WideShapes Go.ChangeAt Go.RowKit
set_option maxRecDepth 100000

theorem own : ownKnob Tryd.prog.godebug = none := by kernel_rfl
noncomputable def world (os : Os) : World := varsWorld Tryd.prog 86 (varsId Tryd.prog) os (fun _ _ => 0)
theorem world_os (os : Os) : (world os).os = os := by kernel_rfl
noncomputable def args : Array Value := #[.slice Option.none 0 0, .int .i64 0]
theorem laid_met (os : Os) : laidMet Tryd.prog Rows.typesCountsRow.laid ((world os).forCall (fun _ _ => 0) ⟨#[], args, []⟩).memory :=
  laidMet_of_run' 8 (by kernel_rfl) (by kernel_rfl)
theorem reads (os : Os) {H : Type} (enc : TypeId × Value → H) : ∃ places, DataW.whole enc Tryd.prog ((world os).forCall (fun _ _ => 0) ⟨#[], args, []⟩).memory Tryd.f3.params.toList Rows.typesCountsSpec.vars false args.toList 8 = some ([.nil, .lit (.int .i64 0)], [], places) :=
  ⟨[], by kernel_rfl⟩
theorem wit (os : Os) (H : Type) (enc : TypeId × Value → H) : ∃ (w : World) (tape : Tape) (i : Input), w.os = os ∧ (w.forCall tape i).Shaped Tryd.checked.prog ∧ i.vars = [] ∧ Input.okWide Tryd.checked.prog (w.forCall tape i) .any w.heap.size 3 i ∧
      (Rows.OpenSpec.upto Rows.typesCountsSpec).preRow enc Tryd.checked.prog Tryd.f3 Rows.typesCountsUptoRow.domain false Rows.typesCountsUptoRow.laid (w.forCall tape i).memory i.args ∧ ({ modest := false } : Assume).holds Tryd.checked.prog (lone (Frame.enter Tryd.checked.prog 3 i.args .normal) [] (w.forCall tape i)) := by
  obtain ⟨places, hx⟩ := reads os enc
  exact witness_row_atRef (enc := enc) (C := Tryd.checked) false (world os) args (world_os os) (by kernel_rfl) (by kernel_rfl) (by kernel_rfl)
      (OpenSpec.preRow_of_cond 8 hx (by kernel_rfl) (fun k hk => by cases hk; kernel_rfl) (by kernel_rfl) (laid_met os))
end Go.Proofs.YtijochhhibgcaaaDoor.Wit
