/- The contracts of package schema: Encode. -/
import Derived.Test.YtehfoddnlecmjaaGreatDoorSch9
import Derived.Test.YtehfoddnlecmjaaGreatDoorSch11
import Derived.Test.YtehfoddnlecmjaaGreatDoorSch13
set_option linter.unusedVariables false
set_option linter.unusedSimpArgs false
namespace Go.Proofs.YtehfoddnlecmjaaGreatDoor
open Go.RowKit

def EnPost (fs : List Fld) (w : World) (e : Ending) (w' : World) : Prop := ∃ v, e = .returned (.tuple #[v, .nilIface]) ∧ OB w' w.heap.size v (encB fs) ∧ Ext w w'
set_option maxRecDepth 100000 in
set_option maxHeartbeats 1600000 in
theorem codec_Encode (C base : Nat) (xs : List SlP) (D P : Option Addr) (cd cp : Nat) (ps : List PV) (w : World) (hc : CodecAt w base C xs) (hp : PRd w P ps) (hok : OkParts xs ps) (h1 : 1 ≤ xs.length) (h64 : xs.length ≤ 64) (hf : okFs (fieldsOf xs ps)) (hl : (encB (fieldsOf xs ps)).length ≤ 4194304) :
    Calls Tryz.prog 47 #[.pointer (some ⟨C, 0, none⟩), .agg #[.int .u64 0, .slice D 0 cd, .slice P ps.length cp]] w (EnPost (fieldsOf xs ps) w) := by
  have X0 : Ext w (w.alloc (.cells #[.int .u64 0, .slice D 0 cd, .slice P ps.length cp] 78 (0, 0))) := (Ext.refl _).alloc _
  have hV := new_blk w (.cells #[.int .u64 0, .slice D 0 cd, .slice P ps.length cp] 78 (0, 0))
  have HC1 := Lib.hid (codec_Check C base xs D P cd cp ps _ (hc.ext X0) (hp.ext X0) hok h1 h64)
  have HC2 := Lib.hid (fun (W : World) (hW : Ext w W) => codec_write C base xs D P cd cp ps W (hc.ext hW) (hp.ext hW) hok h1 h64 hf hl)
  clear hc hp hok hf hl
  go_enter Tryz.func47, Tryz.ntmps47
  go_wp2_with fail
  refine HC1.out.mono ?_
  rintro e w1 ⟨rfl, hx1⟩
  obtain ⟨a0, a1, a2, _⟩ := blk3 (hx1.heap hV)
  have X1 := X0.trans hx1
  go_wp2_with fail
  refine (HC2.out w1 X1).mono ?_
  rintro e w2 ⟨v, rfl, ho, hx2⟩
  go_wp2
  refine bodyPost_ret (v := .tuple #[v, .nilIface]) (by simp [results, Tryz.results47, go_sem]) rfl ⟨v, rfl, ho.base X1.size, X1.trans hx2⟩
end Go.Proofs.YtehfoddnlecmjaaGreatDoor
