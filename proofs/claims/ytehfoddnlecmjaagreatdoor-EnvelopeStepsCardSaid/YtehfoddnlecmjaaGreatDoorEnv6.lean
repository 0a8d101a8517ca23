/- The contracts of package envelope: Unpad. -/
import Derived.Test.YtehfoddnlecmjaaGreatDoorEnv5
import Derived.Test.YtehfoddnlecmjaaGreatDoorWire6
set_option linter.unusedVariables false
set_option linter.unusedSimpArgs false
namespace Go.Proofs.YtehfoddnlecmjaaGreatDoor
open Go.RowKit

/-- What Unpad leaves, of a known version. -/
def UnpadPost (v : Int) (l : Bytes) (w : World) (e : Ending) (w' : World) : Prop :=
  Ext w w' ∧ (¬ (v = 1 ∨ v = 2) → e = .returned (.tuple #[.slice none 0 0, .int .i64 100])) ∧
    ((v = 1 ∨ v = 2) → unpadR v.toNat l = none → e = .returned (.tuple #[.slice none 0 0, .int .i64 101])) ∧
    (∀ p, (v = 1 ∨ v = 2) → unpadR v.toNat l = some p → ∃ x, e = .returned (.tuple #[x, .int .i64 0]) ∧ OB w' w.heap.size x p)
/-- What grows hands back is no nil, of a known version. -/
theorem growsV_some {v : Int} (h : v = 1 ∨ v = 2) : ∃ f, growsV v = .func (.func f) #[] #[] := by
  rcases h with rfl | rfl
  · exact ⟨_, rfl⟩
  · exact ⟨_, rfl⟩
theorem eqNil_f (f : Nat) (w : World) : (binOp .eql 90 (.func (.func f) #[] #[]) .nilFunc).run Tryz.prog w = .ok (.bool false) w := by kernel_rfl
set_option maxRecDepth 100000 in
set_option maxHeartbeats 1600000 in
theorem unpad_version (v : Int) (A : Option Addr) (c : Nat) (l : Bytes) (w : World) (h : ¬ (v = 1 ∨ v = 2)) :
    Calls Tryz.prog 26 #[.int .i64 v, .slice A l.length c] w (UnpadPost v l w) := by
  have H := Lib.hid h
  have E0 := eqNil_nil
  clear h
  go_enter Tryz.func26, Tryz.ntmps26
  go_wp2_with (go_at_call 46; refine (grows_any _ _).mono ?_; rintro e w1 ⟨rfl, hx⟩; rw [growsV_no (by have := H.out; omega)])
  go_ret2
  exact ⟨hx, fun _ => rfl, fun h => absurd h H.out, fun _ h => absurd h H.out⟩
set_option maxRecDepth 100000 in
set_option maxHeartbeats 1600000 in
theorem unpad_short (v : Int) (A : Option Addr) (c : Nat) (l : Bytes) (w : World) (h : v = 1 ∨ v = 2) (hl : l.length < 64) :
    Calls Tryz.prog 26 #[.int .i64 v, .slice A l.length c] w (UnpadPost v l w) := by
  have H := Lib.hid h
  obtain ⟨f, hf⟩ := growsV_some h
  have HF := Lib.hid hf
  have E0 := eqNil_f f
  clear hf
  have HU : Hid (unpadR v.toNat l = none) := by exact (by unfold unpadR; rw [if_pos hl] : unpadR v.toNat l = none)
  clear h
  go_enter Tryz.func26, Tryz.ntmps26
  go_wp2_with (go_at_call 46; refine (grows_any _ _).mono ?_; rintro e w1 ⟨rfl, hx⟩; rw [HF.out])
  go_ret2
  exact ⟨hx, fun h => absurd H.out h, fun _ _ => rfl, fun p _ h => by rw [HU.out] at h; cases h⟩
theorem all_step {l : Bytes} {m k : Nat} (h : m + k < l.length) (hz : ((l.drop m).take k).all (· == 0) = true) (h0 : l[m + k] = 0) : ((l.drop m).take (k + 1)).all (· == 0) = true := by
  have hk : k < (l.drop m).length := by simp; omega
  rw [List.take_succ_eq_append_getElem hk, List.all_append, hz]
  simp [h0]
theorem all_not {l : Bytes} {m k : Nat} (h : m + k < l.length) (h0 : l[m + k] ≠ 0) : ¬ (l.drop m).all (· == 0) = true := by
  intro ha
  have hk : k < (l.drop m).length := by simp; omega
  have := List.all_eq_true.1 ha _ (List.getElem_mem hk)
  simp at this
  exact h0 this
theorem u8_zero {x : UInt8} (h : ((x.toNat : Int) != 0) = false) : x = 0 := by
  have h1 : x.toNat = 0 := by simpa using h
  exact UInt8.toNat_inj.1 h1
theorem u8_not_zero {x : UInt8} (h : ((x.toNat : Int) != 0) = true) : x ≠ 0 := by
  rintro rfl
  simp at h
theorem or_join64 {acc x j : Nat} (h : acc < 256 ^ j) (hx : x < 256) (hj : j < 4) : bits .or .i64 (acc : Int) (wrap64 ((x : Int) * 2 ^ (8 * j))) = ((acc + x * 256 ^ j : Nat) : Int) := by
  have e : (256 : Nat) ^ j = 2 ^ (8 * j) := by rw [Nat.pow_mul]
  rw [e] at h
  have h1 : x * 2 ^ (8 * j) ≤ 255 * 2 ^ (8 * j) := Nat.mul_le_mul_right _ (by omega)
  have h2 : (2 : Nat) ^ (8 * j) ≤ 2 ^ 24 := Nat.pow_le_pow_right (by omega) (by omega)
  have e1 : ((x : Int) * 2 ^ (8 * j)) = ((x * 2 ^ (8 * j) : Nat) : Int) := by simp
  have w64 : ∀ m : Nat, m < 9223372036854775808 → wrap64 (m : Int) = (m : Int) := fun m hm => by unfold wrap64; omega
  have e2 : wrap64 ((x * 2 ^ (8 * j) : Nat) : Int) = ((x * 2 ^ (8 * j) : Nat) : Int) := w64 _ (by omega)
  rw [e1, e2, e]
  have hj := nat_join (8 * j) (x * 2 ^ (8 * j)) acc (by simp) h
  generalize x * 2 ^ (8 * j) = y at *
  show IntKind.i64.wrap ((BitVec.ofInt 64 (acc : Int) ||| BitVec.ofInt 64 (y : Int)).toNat : Int) = _
  rw [BitVec.toNat_or, ofInt_u64 acc (by omega), ofInt_u64 y (by omega), show acc ||| y = acc + y by rw [Nat.or_comm, hj, Nat.add_comm]]
  have hs : acc + y < 9223372036854775808 := by omega
  generalize acc + y = m at *
  rw [IntKind.wrap_i64]
  omega
set_option maxRecDepth 100000 in
set_option maxHeartbeats 1600000 in
theorem unpad_body (v : Int) (A : Option Addr) (c : Nat) (l : Bytes) (w : World) (hr : RB w A l) (hc : l.length ≤ c) (hcm : c ≤ 9223372036854775807) (h : v = 1 ∨ v = 2) (hl : 64 ≤ l.length) (hlm : l.length ≤ 140737488355328) :
    Calls Tryz.prog 26 #[.int .i64 v, .slice A l.length c] w (UnpadPost v l w) := by
  have H := Lib.hid h
  obtain ⟨f, hf⟩ := growsV_some h
  have HF := Lib.hid hf
  have E0 := eqNil_f f
  clear hf
  obtain ⟨b, o, rfl, hc'⟩ := hr.at_ (i := 0) (by omega)
  clear h
  go_enter Tryz.func26, Tryz.ntmps26
  go_wp2_with (go_at_call 46; refine (grows_any _ _).mono ?_; rintro e w1 ⟨rfl, hx⟩; rw [HF.out])
  have HCC := Lib.hid (fun j (h : j < l.length) => hx.cell (hc' j h))
  clear hc' E0
  go_loopw [6, 18] (fun a i wr => ∃ k : Nat, k ≤ 4 ∧ i = .int .i64 k ∧ a = .int .i64 (little (l.take k)) ∧ wr = w1) (fun _ i _ => 4 - (intOf i).toNat)
  case atStart => exact ⟨0, by omega, rfl, rfl, rfl⟩
  case round =>
    obtain ⟨k, hk, rfl, rfl, rfl⟩ := hrel
    by_cases hlt : k < 4
    · have c0 := HCC.out k (by omega)
      have hx8 := u8_lt l[k]
      have HT : Hid (little (l.take (k + 1)) = little (l.take k) + l[k].toNat * 256 ^ k) := Lib.hid (by simpa using take_little l 0 k (by omega))
      have hacc := little_lt (l.take k)
      rw [show (l.take k).length = k by simp; omega] at hacc
      have HOR := Lib.hid (or_join64 hacc hx8 (by omega))
      generalize l[k].toNat = x at *
      have hacc4 : little (l.take k) < 4294967296 := Nat.lt_of_lt_of_le hacc (Nat.le_trans (Nat.pow_le_pow_right (by decide) (show k ≤ 4 by omega)) (by decide))
      clear hacc
      go_wp2
      exact ⟨⟨k + 1, by omega, by simp, by rw [HOR.out, HT.out], by first | rfl | trivial⟩, by simp [intOf]; omega⟩
    · obtain rfl : k = 4 := by omega
      have hn32 := little_lt (l.take 4)
      rw [show (l.take 4).length = 4 by simp; omega] at hn32
      have HU0 : Hid (∀ q, q = unpadR v.toNat l → q = (if 1048576 < little (l.take 4) ∨ bucket v.toNat (little (l.take 4)) ≠ l.length then none else if (l.drop (4 + little (l.take 4))).all (· == 0) then some ((l.drop 4).take (little (l.take 4))) else none)) := Lib.hid (by
        rintro q rfl
        unfold unpadR
        rw [if_neg (by omega)])
      generalize little (l.take 4) = n at *
      have hn32' : n < 4294967296 := hn32
      clear hn32
      by_cases hbig : 1048576 < n
      · have HB : Hid (bkt v n = (0, 2)) := Lib.hid (by have := H.out; unfold bkt; rw [if_pos this, if_neg (by omega), if_pos (by omega)])
        have HU : Hid (unpadR v.toNat l = none) := Lib.hid (by rw [HU0.out _ rfl, if_pos (.inl hbig)])
        go_wp2_with fail
        refine (bucket_any v _ _).mono ?_
        rintro e w2 ⟨rfl, hx2⟩
        rw [HB.out]
        go_wp2
        go_ret2
        exact ⟨hx.trans hx2, fun h => absurd H.out h, fun _ _ => rfl, fun p _ h => by rw [HU.out] at h; cases h⟩
      · have HB : Hid (bkt v n = (((bucket v.toNat n : Nat) : Int), 0)) := Lib.hid (by have := H.out; unfold bkt; rw [if_pos this, if_neg (by omega), if_neg (by omega), Int.toNat_natCast])
        by_cases hbl : bucket v.toNat n = l.length
        · have hge := (bucket_ge v.toNat n).1
          have HBL := Lib.hid hbl
          rw [hbl] at hge
          have HU1 : Hid (unpadR v.toNat l = if (l.drop (4 + n)).all (· == 0) then some ((l.drop 4).take n) else none) := Lib.hid (by rw [HU0.out _ rfl, if_neg (by omega)])
          clear hbl
          go_wp2_with fail
          refine (bucket_any v _ _).mono ?_
          rintro e w2 ⟨rfl, hx2⟩
          rw [HB.out, HBL.out]
          have HTK := Lib.hid (fun k (hk : 4 + n + k < l.length) => (by
            have h := hx2.cell (HCC.out (4 + n + k) hk)
            have e : o + (4 + n) + k = o + (4 + n + k) := by omega
            rw [e]
            exact h : w2.cell? ⟨b, o + (4 + n) + k, none⟩ = some (.int .u8 (l[4 + n + k].toNat : Int))))
          have HRD := Lib.hid (RB.drop_take HCC.out 4 n)
          have hdl : ((l.drop 4).take n).length = n := by simp; omega
          have HDQ : Hid (4 + n - 4 = ((l.drop 4).take n).length) := Lib.hid (by rw [hdl]; omega)
          have HDL := Lib.hid hdl
          clear hdl
          have X2 := hx.trans hx2
          go_wp2_with fail
          case inl =>
            have hll : l.length - (4 + n) = 0 := by omega
            have HU2 : Hid (unpadR v.toNat l = some ((l.drop 4).take n)) := Lib.hid (by rw [HU1.out, List.drop_of_length_le (by omega)]; rfl)
            go_loopw [11, 51] (fun _ i wx => i = .int .i64 0 ∧ wx = w2) (fun _ i _ => 0)
            case atStart => exact ⟨rfl, rfl⟩
            case round =>
              obtain ⟨rfl, rfl⟩ := hrel
              have hHRD := HRD.out.ext hx2
              go_wp2_with (at_builtin; go_must (refine wpList_appB (by rfl) (.const (.slice none 0 0)) (.tmp 61) (by rfl) Tryz.underlying22 u8_info (by rfl) (OB.nil _ w.heap.size) (some ⟨b, o + 4, none⟩) n ((l.drop 4).take n) (congrArg (fun k => Value.slice (some ⟨b, o + 4, none⟩) k n) HDQ.out) hHRD (by simp; omega) X2.size ?_); intro v1 w3 ho1 hg1 hat1; have hX3 := Lib.hid (X2.trans (Ext.of_grown hg1)); obtain ⟨A1, c1, rfl, _, _, _, _⟩ := ho1.reads)
              go_ret2
              refine ⟨hX3.out, fun h => absurd H.out h, (fun _ h => by rw [HU2.out] at h; cases h), fun p _ h => ?_⟩
              rw [HU2.out] at h
              injection h with h
              subst h
              exact ⟨_, rfl, by simpa using ho1⟩
          case inr =>
            go_loopw [11, 51] (fun _ i wx => ∃ k : Nat, k ≤ l.length - (4 + n) ∧ i = .int .i64 k ∧ Hid (((l.drop (4 + n)).take k).all (· == 0) = true) ∧ wx = w2) (fun _ i _ => l.length - (4 + n) - (intOf i).toNat)
            case atStart => exact ⟨0, by omega, rfl, Lib.hid rfl, rfl⟩
            case round =>
              obtain ⟨k, hk, rfl, HZ, rfl⟩ := hrel
              by_cases hkl : k < l.length - (4 + n)
              · have hkl2 : 4 + n + k < l.length := by omega
                have c1 := HTK.out k hkl2
                clear HTK
                by_cases hz : l[4 + n + k] = 0
                · have HZ2 := Lib.hid (all_step hkl2 HZ.out hz)
                  have tz : ((l[4 + n + k].toNat : Int) != 0) = false := by rw [hz]; rfl
                  clear hz
                  go_wp2
                  exact ⟨⟨k + 1, by omega, by simp, HZ2, by first | rfl | trivial⟩, by simp [intOf]; omega⟩
                · have HU2 : Hid (unpadR v.toNat l = none) := Lib.hid (by rw [HU1.out, if_neg (all_not hkl2 hz)])
                  have tz : ((l[4 + n + k].toNat : Int) != 0) = true := by
                    simp
                    intro h
                    exact hz (UInt8.toNat_inj.1 h)
                  clear hz
                  go_wp2
                  go_ret2
                  exact ⟨X2, fun h => absurd H.out h, fun _ _ => rfl, fun p _ h => by rw [HU2.out] at h; cases h⟩
              · obtain rfl : k = l.length - (4 + n) := by omega
                have HU2 : Hid (unpadR v.toNat l = some ((l.drop 4).take n)) := Lib.hid (by
                  have := HZ.out
                  rw [List.take_of_length_le (by simp)] at this
                  rw [HU1.out, if_pos this])
                have hHRD := HRD.out.ext hx2
                clear HTK HCC
                go_wp2_with (at_builtin; go_must (refine wpList_appB (by rfl) (.const (.slice none 0 0)) (.tmp 61) (by rfl) Tryz.underlying22 u8_info (by rfl) (OB.nil _ w.heap.size) (some ⟨b, o + 4, none⟩) (c - 4) ((l.drop 4).take n) (congrArg (fun k => Value.slice (some ⟨b, o + 4, none⟩) k (c - 4)) HDQ.out) hHRD (by simp; omega) X2.size ?_); intro v1 w3 ho1 hg1 hat1; have hX3 := Lib.hid (X2.trans (Ext.of_grown hg1)); obtain ⟨A1, c1, rfl, _, _, _, _⟩ := ho1.reads)
                go_ret2
                refine ⟨hX3.out, fun h => absurd H.out h, (fun _ h => by rw [HU2.out] at h; cases h), fun p _ h => ?_⟩
                rw [HU2.out] at h
                injection h with h
                subst h
                exact ⟨_, rfl, by simpa using ho1⟩
        · have t : (((bucket v.toNat n : Nat) : Int) != (l.length : Int)) = true := by simp; omega
          have HU : Hid (unpadR v.toNat l = none) := Lib.hid (by rw [HU0.out _ rfl, if_pos (.inr hbl)])
          go_wp2_with fail
          refine (bucket_any v _ _).mono ?_
          rintro e w2 ⟨rfl, hx2⟩
          rw [HB.out]
          go_wp2
          go_ret2
          exact ⟨hx.trans hx2, fun h => absurd H.out h, fun _ _ => rfl, fun p _ h => by rw [HU.out] at h; cases h⟩
theorem unpad_any (v : Int) (A : Option Addr) (c : Nat) (l : Bytes) (w : World) (hr : RB w A l) (hc : l.length ≤ c) (hcm : c ≤ 9223372036854775807) (hlm : l.length ≤ 140737488355328) :
    Calls Tryz.prog 26 #[.int .i64 v, .slice A l.length c] w (UnpadPost v l w) := by
  by_cases h : v = 1 ∨ v = 2
  · by_cases hl : l.length < 64
    · exact unpad_short v A c l w h hl
    · exact unpad_body v A c l w hr hc hcm h (by omega) hlm
  · exact unpad_version v A c l w h
/-! Length. -/
theorem lframed_any (n : Int) (w : World) (h0 : 0 ≤ n) (h : n ≤ 1099511627776) : Calls Tryz.prog 51 #[.int .i64 n] w fun e w' => e = .returned (.int .i64 (1 + (vsize n.toNat : Nat) + n)) ∧ w = w' := by
  have hv := vsize_le10 (n := n.toNat) (by omega)
  go_enter Tryz.func51, Tryz.ntmps51
  go_wp2_with fail
  refine (size_i n _ h0 (by omega)).mono ?_
  rintro e w1 ⟨rfl, rfl⟩
  go_wp2
  go_ret
  exact ⟨rfl, rfl⟩
/-- What Length answers. -/
def lenR (v n : Int) : Int × Int := if (bkt v n).2 ≠ 0 then (0, (bkt v n).2) else (99 + (vsize ((bkt v n).1 + 16).toNat : Nat) + (bkt v n).1, 0)
set_option maxRecDepth 100000 in
set_option maxHeartbeats 800000 in
theorem length_any (v n : Int) (w : World) : Calls Tryz.prog 32 #[.int .i64 v, .int .i64 n] w fun e w' => e = .returned (.tuple #[.int .i64 (lenR v n).1, .int .i64 (lenR v n).2]) ∧ Ext w w' := by
  by_cases h : (bkt v n).2 = 0
  · obtain ⟨hv, h0, h1, hb⟩ := bkt_ok h
    have hlt := bucket_lt v.toNat n.toNat
    have hge := bucket_ge v.toNat n.toNat
    have HL : Hid (lenR v n = (99 + (vsize ((bkt v n).1 + 16).toNat : Nat) + (bkt v n).1, 0)) := Lib.hid (by unfold lenR; rw [if_neg (by simpa using h)])
    rw [hb] at HL
    have HB := Lib.hid hb
    have HH := Lib.hid h
    clear h hb hv
    generalize bucket v.toNat n.toNat = B at *
    have hvs := vsize_le10 (n := B + 16) (by omega)
    have e16 : ((B : Int) + 16).toNat = B + 16 := by omega
    rw [e16] at HL
    have v16 : vsize 16 = 1 := vsize_lt (by decide)
    have v60 : vsize 60 = 1 := vsize_lt (by decide)
    have HV16 := Lib.hid v16
    have HV60 := Lib.hid v60
    have HE16 := Lib.hid e16
    clear v16 v60 e16
    go_enter Tryz.func32, Tryz.ntmps32
    go_wp2_with fail
    refine (bucket_any v n _).mono ?_
    rintro e w1 ⟨rfl, hx⟩
    rw [HB.out, HH.out]
    go_wp2_with fail
    refine (lframed_any 16 _ (by decide) (by decide)).mono ?_
    rintro e w2 ⟨rfl, rfl⟩
    rw [show (16 : Int).toNat = 16 from rfl, HV16.out]
    go_wp2_with fail
    refine (lframed_any 60 _ (by decide) (by decide)).mono ?_
    rintro e w2 ⟨rfl, rfl⟩
    rw [show (60 : Int).toNat = 60 from rfl, HV60.out]
    go_wp2_with fail
    refine (lframed_any _ _ (by omega) (by omega)).mono ?_
    rintro e w2 ⟨rfl, rfl⟩
    rw [HE16.out]
    go_wp2
    go_ret2
    rw [HL.out]
    refine ⟨?_, hx⟩
    have e4 : ∀ a b : Int, a = b → Ending.returned (.tuple #[.int .i64 a, .int .i64 0]) = .returned (.tuple #[.int .i64 b, .int .i64 0]) := fun a b h => by rw [h]
    exact e4 _ _ (by simp only; omega)
  · have HL : Hid (lenR v n = (0, (bkt v n).2)) := Lib.hid (by unfold lenR; rw [if_pos h])
    have t : ((bkt v n).2 != 0) = true := by simpa using h
    go_enter Tryz.func32, Tryz.ntmps32
    go_wp2_with fail
    refine (bucket_any v n _).mono ?_
    rintro e w1 ⟨rfl, hx⟩
    go_wp2
    go_ret2
    rw [HL.out]
    exact ⟨rfl, hx⟩
theorem known_any (v : Int) (w : World) : Calls Tryz.prog 25 #[.int .i64 v] w fun e w' => e = .returned (.bool (decide (v = 1 ∨ v = 2))) ∧ w = w' := by
  by_cases h1 : v = 1
  · subst h1
    go_enter Tryz.func25, Tryz.ntmps25
    go_wp2
    go_ret
    exact ⟨rfl, rfl⟩
  · by_cases h2 : v = 2
    · subst h2
      go_enter Tryz.func25, Tryz.ntmps25
      go_wp2
      go_ret
      exact ⟨rfl, rfl⟩
    · have HE : Hid (decide (v = 1 ∨ v = 2) = false) := Lib.hid (by simp [h1, h2])
      have t1 : (v == 1) = false := by simp [h1]
      have t2 : (v == 2) = false := by simp [h2]
      go_enter Tryz.func25, Tryz.ntmps25
      go_wp2
      go_ret
      rw [HE.out]
      exact ⟨rfl, rfl⟩
end Go.Proofs.YtehfoddnlecmjaaGreatDoor
