/- The argument types of the laws, read as data. -/
import Derived.Test.YtfidphaoddenlaaEnv
import Derived.Test.YtfidphaoddenlaaFr
import Derived.Test.YtfidphaoddenlaaK3
set_option linter.unusedSimpArgs false
set_option linter.unusedVariables false
namespace Go.AW
open Go.Proofs
theorem rd_i32 : Rd Try.prog 21 (fun n : Int => -2147483648 ≤ n ∧ n ≤ 2147483647) (fun n => [.s (.int .i32 n)]) :=
  rd_as (rd_int (k := .i32) Try.underlying21) id (fun x h => ⟨h.1, h.2⟩) fun _ => rfl
theorem rd_i64 : Rd Try.prog 3 (fun n : Int => -9223372036854775808 ≤ n ∧ n ≤ 9223372036854775807) (fun n => [.s (.int .i64 n)]) :=
  rd_as (rd_int (k := .i64) Try.underlying3) id (fun x h => ⟨h.1, h.2⟩) fun _ => rfl
theorem rd_runes : Rd Try.prog 30 (fun x : Nat × (Nat → Int) => x.1 * 4 ≤ 140737488351232 ∧ ∀ i, i < x.1 → -2147483648 ≤ x.2 i ∧ x.2 i ≤ 2147483647) (fun x => [.l 1 x.1 (fun i => [.s (.int .i32 (x.2 i))])]) :=
  rd_slice (sz := 1) (by' := 4) Try.underlying30 (by kernel_rfl) (by decide) (by kernel_rfl) (fun _ => rfl) rd_i32
theorem rd_u8 : Rd Try.prog 5 (fun n : Int => 0 ≤ n ∧ n ≤ 255) (fun n => [.s (.int .u8 n)]) :=
  rd_as (rd_int (k := .u8) Try.underlying5) id (fun x h => ⟨h.1, h.2⟩) fun _ => rfl
theorem rd_bytes : Rd Try.prog 29 (fun x : Nat × (Nat → Int) => x.1 * 1 ≤ 140737488351232 ∧ ∀ i, i < x.1 → 0 ≤ x.2 i ∧ x.2 i ≤ 255) (fun x => [dI .u8 x.1 x.2]) :=
  rd_slice (sz := 1) (by' := 1) Try.underlying29 (by kernel_rfl) (by decide) (by kernel_rfl) (fun _ => rfl) rd_u8
theorem rd_boolT : Rd Try.prog 4 (fun _ : Bool => True) (fun b => [.s (.bool b)]) := rd_bool Try.underlying4
theorem rd_keyReader : Rd Try.prog 39 (fun x : (Nat × (Nat → Int)) × Bool => x.1.1 * 1 ≤ 140737488351232 ∧ ∀ i, i < x.1.1 → 0 ≤ x.1.2 i ∧ x.1.2 i ≤ 255) (fun x => [dI .u8 x.1.1 x.1.2, .s (.bool x.2)]) :=
  rd_as (rd_struct (tot := 2) Try.underlying39 (by kernel_rfl) (rdF_cons (c := 1) rfl (by kernel_rfl) (by decide) rd_bytes (rdF_cons (c := 1) rfl (by kernel_rfl) (by decide) rd_boolT rdF_nil))) (fun x => (x.1, x.2.1)) (fun x h => ⟨h.1.1, h.1.2⟩) fun _ => rfl
theorem rd_cluster : Rd Try.prog 99 (fun x : (Nat × (Nat → Int)) × Int => x.1.1 * 4 ≤ 140737488351232 ∧ (∀ i, i < x.1.1 → -2147483648 ≤ x.1.2 i ∧ x.1.2 i ≤ 2147483647) ∧ -9223372036854775808 ≤ x.2 ∧ x.2 ≤ 9223372036854775807) (fun x => [dI .i32 x.1.1 x.1.2, .s (.int .i64 x.2)]) :=
  rd_as (rd_struct (tot := 2) Try.underlying99 (by kernel_rfl) (rdF_cons (c := 1) rfl (by kernel_rfl) (by decide) rd_runes (rdF_cons (c := 1) rfl (by kernel_rfl) (by decide) rd_i64 rdF_nil))) (fun x => (x.1, x.2.1)) (fun x h => ⟨h.1.1, h.1.2, h.2.1⟩) fun _ => rfl
theorem rd_clusters : Rd Try.prog 22 (fun x : Nat × (Nat → (Nat × (Nat → Int)) × Int) => x.1 * 32 ≤ 140737488351232 ∧ ∀ i, i < x.1 → (x.2 i).1.1 * 4 ≤ 140737488351232 ∧ (∀ j, j < (x.2 i).1.1 → -2147483648 ≤ (x.2 i).1.2 j ∧ (x.2 i).1.2 j ≤ 2147483647) ∧ -9223372036854775808 ≤ (x.2 i).2 ∧ (x.2 i).2 ≤ 9223372036854775807) (fun x => [dCl x.1 (fun i => (x.2 i).1.1) (fun i => (x.2 i).1.2) (fun i => (x.2 i).2)]) :=
  rd_slice (sz := 2) (by' := 32) Try.underlying22 (by kernel_rfl) (by decide) (by kernel_rfl) (fun _ => rfl) rd_cluster
end Go.AW
