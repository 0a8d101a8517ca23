/- The frame of the laws: the world of the witness; a slice of bytes that came in. -/
import Derived.Test.YtehfoddnlecmjaaGreatDoorRows
import Derived.Test.YtehfoddnlecmjaaGreatDoorEnv10
import Derived.ProofKit
import Derived.OpenShut
import Derived.ShutString
import Derived.LaidHandle
import Derived.LaidLaws
import Derived.Stop.Joined
import Derived.Test.YtehfoddnlecmjaaGreatDoorTie
import Derived.Test.YtehfoddnlecmjaaGreatDoorCards
import Derived.SevenTiedAt
set_option linter.unusedVariables false
set_option linter.unusedSimpArgs false
namespace Go.Proofs.YtehfoddnlecmjaaGreatDoor
open Go.ChangeShapes Go.WideShapes Go.ChangeAt Go.RowKit

theorem law_own : ownKnob Tryz.prog.godebug = none := by kernel_rfl
theorem law_laidOut : laidOutB Tryz.prog = true := by kernel_rfl
def lits1 : List (DataW Unit) → List Value
  | [] => []
  | .lit (.int k n) :: r => .int k n :: lits1 r
  | _ :: r => lits1 r
def aggCells : DataW Unit → Array Value
  | .agg l => (lits1 l).toArray
  | _ => #[]
def accCells : Array Value := #[.int .u8 128, .int .u8 191, .int .u8 160, .int .u8 191, .int .u8 128, .int .u8 159, .int .u8 144, .int .u8 191, .int .u8 128, .int .u8 143, .int .u8 0, .int .u8 0, .int .u8 0, .int .u8 0, .int .u8 0, .int .u8 0, .int .u8 0, .int .u8 0, .int .u8 0, .int .u8 0, .int .u8 0, .int .u8 0, .int .u8 0, .int .u8 0, .int .u8 0, .int .u8 0, .int .u8 0, .int .u8 0, .int .u8 0, .int .u8 0, .int .u8 0, .int .u8 0]
def setB (cs : Array Value) : Obj → Obj
  | .cells _ t frozen => .cells cs t frozen
  | o => o
/-- The world of the witness: the settled one, the listed variables as they are laid. -/
noncomputable def laidWorld (os : Os) : World :=
  { World.holding Tryz.prog os ⟨#[], #[], []⟩ with heap := (((World.holding Tryz.prog os ⟨#[], #[], []⟩).heap.modify 0 (setB #[.iface 143 (.agg #[typeHandle Tryz.prog 29])])).modify 2 (setB (aggCells Go.Pinned.utf8First))).modify 3 (setB accCells) }
def lawLaid : List (String × DataW Unit) := [("unicode/utf8.acceptRanges", Rows.laid_unicode_utf8_acceptRanges), ("errors.errorType", Rows.laid_errors_errorType), ("unicode/utf8.first", Rows.laid_unicode_utf8_first)]
theorem laid_met (os : Os) (args : Array Value) : laidMetH Tryz.prog lawLaid ((laidWorld os).forCall (fun _ _ => 0) ⟨#[], args, []⟩).memory :=
  laidMetH_of_parts (laidMet_of_run' 8 (by kernel_rfl) (by kernel_rfl)) (by kernel_rfl)
/-- The bytes of a slice that came in. -/
def bytesOfZ (len : Nat) (zs : List Int) : Bytes := (zs.take len).map fun z => UInt8.ofNat z.toNat
theorem bytesOfZ_length {len : Nat} {zs : List Int} (h : len ≤ zs.length) : (bytesOfZ len zs).length = len := by simp [bytesOfZ]; omega
theorem wf_u8 {z : Int} (h : (Lit.int .u8 z).wf = true) : ((UInt8.ofNat z.toNat).toNat : Int) = z := by
  have hb : 0 ≤ z ∧ z ≤ 255 := bounds_u8 h
  rw [UInt8.toNat_ofNat']
  omega
theorem open_bytes {H : Type} {enc : TypeId × Value → H} {W : World} {a : Option Addr} {len cap : Nat} {d : DataW H} {p : List MemPlace} (h : DataW.Trod enc Tryz.prog W 0 (fun _ => true) true 22 (.slice a len cap) d p) :
    ∃ l : Bytes, len = l.length ∧ RB W a l ∧ l.length ≤ cap ∧ cap ≤ maxLen ∧ (∀ x, a = some x → 0 < l.length → x.block < W.heap.size) := by
  obtain ⟨fuel, hf⟩ := h
  rcases open_ints Tryz.underlying22 Tryz.underlying5 (by kernel_rfl) hf with ⟨hcs, _⟩ | ⟨x, l, c, zs, hcs, _, hl, hm, hz, _, hcell, hwz⟩
  · simp [Value.cells] at hcs
    obtain ⟨rfl, rfl, rfl⟩ := hcs
    exact ⟨[], rfl, .inl rfl, Nat.le_refl _, by simp [maxLen], fun x h => by cases h⟩
  · simp [Value.cells] at hcs
    obtain ⟨rfl, rfl, rfl⟩ := hcs
    have hz' : zs.length = cap := by simpa using hz
    have hlen := bytesOfZ_length (len := len) (zs := zs) (by omega)
    refine ⟨bytesOfZ len zs, hlen.symm, ?_, by omega, hm, fun y hy h0 => ?_⟩
    · by_cases h0 : len = 0
      · exact .inl (List.eq_nil_of_length_eq_zero (by omega))
      · obtain ⟨b, off, rfl, hc⟩ := ints_at hcell (by omega)
        refine .inr ⟨b, off, rfl, fun i hi => ?_⟩
        rw [hc i (by omega)]
        have hil : i < zs.length := by omega
        have e1 : (bytesOfZ len zs)[i] = UInt8.ofNat (zs[i]).toNat := by simp [bytesOfZ]
        rw [e1, wf_u8 (hwz _ (List.getElem_mem hil))]
        simp [List.getD, hil]
    · injection hy with hy
      subst hy
      obtain ⟨b, off, rfl, hc⟩ := ints_at hcell (by omega)
      exact lt_of_cell (hc 0 (by omega))
end Go.Proofs.YtehfoddnlecmjaaGreatDoor
