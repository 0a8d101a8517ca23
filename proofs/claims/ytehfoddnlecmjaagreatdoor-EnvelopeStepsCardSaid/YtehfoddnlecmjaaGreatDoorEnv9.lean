/- What the laws of envelope lean on: same, lives. -/
import Derived.Test.YtehfoddnlecmjaaGreatDoorEnv8
import Derived.Laws.BytesArg
set_option linter.unusedVariables false
set_option linter.unusedSimpArgs false
namespace Go.Proofs.YtehfoddnlecmjaaGreatDoor
open Go.RowKit

theorem str_of (l : Bytes) : strOfNums (l.map fun x => (x.toNat : Int)) = ⟨l.toArray⟩ := by
  unfold strOfNums
  congr 1
  rw [List.map_map]
  have e : l.map ((fun n : Int => UInt8.ofNat n.toNat) ∘ fun x : UInt8 => (x.toNat : Int)) = l := by
    conv => rhs; rw [← List.map_id l]
    apply List.map_congr_left
    intro x _
    simp
  rw [e]
theorem conv_bytes {A : Option Addr} {l : Bytes} {w : World} (c : Nat) (h : RB w A l) : (convert 22 9 (.slice A l.length c)).run Tryz.prog w = .ok (.string ⟨l.toArray⟩) w := by
  have fin : ∀ b o, (∀ j (h : j < l.length), w.cell? ⟨b, o + j, none⟩ = some (.int .u8 (l[j].toNat : Int))) → (convert 22 9 (.slice (some ⟨b, o, none⟩) l.length c)).run Tryz.prog w = .ok (.string ⟨l.toArray⟩) w := by
    intro b o hc
    have := run_convert_bytes_arg (P := Tryz.prog) w 22 5 Tryz.underlying22 Tryz.underlying5 b o l.length c (l.map fun x => (x.toNat : Int)) (by simp) (fun i hi => by
      rw [hc i hi]
      simp [List.getD, hi]) 9 Tryz.underlying9
    rw [this, str_of]
  rcases h with rfl | ⟨b, o, rfl, hc⟩
  · cases A with
    | none => exact run_convert_bytes_nil (P := Tryz.prog) w 22 5 Tryz.underlying22 Tryz.underlying5 0 c 9 Tryz.underlying9
    | some a =>
      show (convert 22 9 (.slice (some a) 0 c)).run Tryz.prog w = _
      rw [run_convert_bytes_string w 22 9 5 (some a) 0 c Tryz.underlying22 Tryz.underlying5 Tryz.underlying9, run_bytesToString w a 0 c [] (by rfl)]
      rfl
  · exact fin b o hc
theorem str_eq (l m : Bytes) : ((⟨l.toArray⟩ : ByteArray).toList == (⟨m.toArray⟩ : ByteArray).toList) = decide (l = m) := by
  rw [ByteArray.toList_eq, ByteArray.toList_eq]
  by_cases h : l = m
  · subst h; simp
  · simp [h]
set_option maxRecDepth 100000 in
theorem same_any (A B : Option Addr) (c d : Nat) (l m : Bytes) (w : World) (h1 : RB w A l) (h2 : RB w B m) :
    Calls Tryz.prog 27 #[.slice A l.length c, .slice B m.length d] w fun e w' => e = .returned (.bool (decide (l = m))) ∧ w = w' := by
  have q1 := conv_bytes c h1
  have q2 := conv_bytes d h2
  have HE := Lib.hid (str_eq l m)
  clear h1 h2
  obtain ⟨ll, hl⟩ : ∃ x, x = l.length := ⟨_, rfl⟩
  obtain ⟨ml, hm⟩ : ∃ x, x = m.length := ⟨_, rfl⟩
  rw [← hl] at q1 ⊢
  rw [← hm] at q2 ⊢
  clear hl hm
  generalize (⟨l.toArray⟩ : ByteArray) = s at *
  generalize (⟨m.toArray⟩ : ByteArray) = t at *
  go_enter Tryz.func27, Tryz.ntmps27
  go_wp2
  go_ret
  rw [← HE.out]
  exact ⟨rfl, rfl⟩
end Go.Proofs.YtehfoddnlecmjaaGreatDoor
