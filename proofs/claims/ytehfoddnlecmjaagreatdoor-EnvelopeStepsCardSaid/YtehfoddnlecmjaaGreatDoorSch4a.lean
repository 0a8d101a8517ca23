/- Which shape is which. -/
import Derived.Test.YtehfoddnlecmjaaGreatDoorSch3
set_option linter.unusedVariables false
set_option linter.unusedSimpArgs false
namespace Go.Proofs.YtehfoddnlecmjaaGreatDoor
open Go.RowKit
@[go_sem] theorem as_number_number (v : Value) (w : World) : (Instr.typeAssert (.iface 198 v) 187 198 true).run Tryz.prog w = .ok (.tuple #[v, .bool true]) w := by kernel_rfl
@[go_sem] theorem as_number_float (v : Value) (w : World) : (Instr.typeAssert (.iface 198 v) 187 201 true).run Tryz.prog w = .ok (.tuple #[.agg #[.float .f64 0], .bool false]) w := by kernel_rfl
@[go_sem] theorem as_number_data (v : Value) (w : World) : (Instr.typeAssert (.iface 198 v) 187 204 true).run Tryz.prog w = .ok (.tuple #[.agg #[.int .u64 0, .int .u64 0, .bool false], .bool false]) w := by kernel_rfl
@[go_sem] theorem as_number_message (v : Value) (w : World) : (Instr.typeAssert (.iface 198 v) 187 190 true).run Tryz.prog w = .ok (.tuple #[.agg #[.pointer none], .bool false]) w := by kernel_rfl
@[go_sem] theorem as_number_list (v : Value) (w : World) : (Instr.typeAssert (.iface 198 v) 187 195 true).run Tryz.prog w = .ok (.tuple #[.agg #[.pointer none, .int .u64 0, .int .u64 0], .bool false]) w := by kernel_rfl
@[go_sem] theorem as_data_number (v : Value) (w : World) : (Instr.typeAssert (.iface 204 v) 187 198 true).run Tryz.prog w = .ok (.tuple #[.agg #[.int .u64 0, .int .u64 0], .bool false]) w := by kernel_rfl
@[go_sem] theorem as_data_float (v : Value) (w : World) : (Instr.typeAssert (.iface 204 v) 187 201 true).run Tryz.prog w = .ok (.tuple #[.agg #[.float .f64 0], .bool false]) w := by kernel_rfl
@[go_sem] theorem as_data_data (v : Value) (w : World) : (Instr.typeAssert (.iface 204 v) 187 204 true).run Tryz.prog w = .ok (.tuple #[v, .bool true]) w := by kernel_rfl
@[go_sem] theorem as_data_message (v : Value) (w : World) : (Instr.typeAssert (.iface 204 v) 187 190 true).run Tryz.prog w = .ok (.tuple #[.agg #[.pointer none], .bool false]) w := by kernel_rfl
@[go_sem] theorem as_data_list (v : Value) (w : World) : (Instr.typeAssert (.iface 204 v) 187 195 true).run Tryz.prog w = .ok (.tuple #[.agg #[.pointer none, .int .u64 0, .int .u64 0], .bool false]) w := by kernel_rfl
@[go_sem] theorem as_list_number (v : Value) (w : World) : (Instr.typeAssert (.iface 195 v) 187 198 true).run Tryz.prog w = .ok (.tuple #[.agg #[.int .u64 0, .int .u64 0], .bool false]) w := by kernel_rfl
@[go_sem] theorem as_list_float (v : Value) (w : World) : (Instr.typeAssert (.iface 195 v) 187 201 true).run Tryz.prog w = .ok (.tuple #[.agg #[.float .f64 0], .bool false]) w := by kernel_rfl
@[go_sem] theorem as_list_data (v : Value) (w : World) : (Instr.typeAssert (.iface 195 v) 187 204 true).run Tryz.prog w = .ok (.tuple #[.agg #[.int .u64 0, .int .u64 0, .bool false], .bool false]) w := by kernel_rfl
@[go_sem] theorem as_list_message (v : Value) (w : World) : (Instr.typeAssert (.iface 195 v) 187 190 true).run Tryz.prog w = .ok (.tuple #[.agg #[.pointer none], .bool false]) w := by kernel_rfl
@[go_sem] theorem as_list_list (v : Value) (w : World) : (Instr.typeAssert (.iface 195 v) 187 195 true).run Tryz.prog w = .ok (.tuple #[v, .bool true]) w := by kernel_rfl
@[go_sem] theorem method_data (v : Value) (w : World) : (method 356 204 v "pawl/schema.is").run Tryz.prog w = .ok (185, v) w := by kernel_rfl
@[go_sem] theorem method_number (v : Value) (w : World) : (method 356 198 v "pawl/schema.is").run Tryz.prog w = .ok (183, v) w := by kernel_rfl
end Go.Proofs.YtehfoddnlecmjaaGreatDoor
