/- The contracts of package envelope: Pad, Length. -/
import Derived.Test.YtehfoddnlecmjaaGreatDoorEnv1
import Derived.Test.YtehfoddnlecmjaaGreatDoorPurePad
import Derived.Test.YtehfoddnlecmjaaGreatDoorWire7
import Derived.Test.YtehfoddnlecmjaaGreatDoorWire3
import Derived.Laws.CopyOwn
set_option linter.unusedVariables false
set_option linter.unusedSimpArgs false
namespace Go.Proofs.YtehfoddnlecmjaaGreatDoor
open Go.RowKit

/-- A row that is full to its end: its block. -/
theorem own_full {w : World} {base g n : Nat} {e : TypeId} {xs : List Value} (h : w.ownsRow base e 1 (.slice (some ⟨g, 0, none⟩) n n) n xs) : w.heap[g]? = some (.cells xs.toArray e (0, 0)) := by
  rcases h.2 with ⟨h, _⟩ | ⟨g', cap, cur, e1, _, hh, _, _, hs, hx⟩
  · cases h
  · injection e1 with e1 e2 e3
    injection e1 with e1
    injection e1 with e1
    subst e1; subst e3
    have : cur.toList.length = n * 1 := by rw [Array.length_toList]; exact hs
    rw [List.take_of_length_le (by omega)] at hx
    rw [hh, ← hx, Array.toArray_toList]
theorem OB.of_blk {w : World} {base g : Nat} {l : Bytes} (h : w.heap[g]? = some (.cells (cb l).toArray 5 (0, 0))) (hg : base ≤ g) (hl : l.length ≤ maxLen) : OB w base (.slice (some ⟨g, 0, none⟩) l.length l.length) l := by
  refine ⟨by simp [cb], .inr ⟨g, l.length, (cb l).toArray, rfl, hg, h, Nat.le_refl _, hl, by simp [cb], ?_⟩⟩
  rw [List.take_of_length_le (by simp [cb])]
theorem cb_zero (n : Nat) : (madeCells (Value.int .u8 0).cells (n * 1)).toList = cb (List.replicate n 0) := by
  have e : (madeCells (Value.int .u8 0).cells (n * 1)).toList = List.replicate n (Value.int .u8 0) := by
    apply List.ext_getElem
    · simp [madeCells, Value.cells]
    · intro i h1 h2
      simp [madeCells, Value.cells, Nat.mod_one]
  rw [e]
  simp [cb]
theorem low_snoc : ∀ (k n : Nat), low (k + 1) n = low k n ++ [b8 (n / 256 ^ k % 256)]
  | 0, n => by simp [low]
  | k + 1, n => by
    have ih := low_snoc k (n / 256)
    rw [low, ih, low, Nat.div_div_eq_div_mul, Nat.pow_succ, Nat.mul_comm 256]
    rfl
theorem set_mid (a : Bytes) (k m : Nat) (x : UInt8) (h : a.length = k) (hm : 0 < m) : (cb (a ++ List.replicate m 0)).set k (.int .u8 (x.toNat : Int)) = cb ((a ++ [x]) ++ List.replicate (m - 1) 0) := by
  obtain ⟨m, rfl⟩ : ∃ j, m = j + 1 := ⟨m - 1, by omega⟩
  subst h
  simp [cb, List.replicate_succ]
/-- What Pad leaves. -/
def PadPost (v : Int) (l : Bytes) (w : World) (e : Ending) (w' : World) : Prop :=
  Ext w w' ∧ ((bkt v l.length).2 ≠ 0 → e = .returned (.tuple #[.slice none 0 0, .int .i64 (bkt v l.length).2])) ∧
    ((bkt v l.length).2 = 0 → ∃ x, e = .returned (.tuple #[x, .int .i64 0]) ∧ OB w' w.heap.size x (padB v.toNat l))
theorem bkt_ok {v n : Int} (h : (bkt v n).2 = 0) : (v = 1 ∨ v = 2) ∧ 0 ≤ n ∧ n ≤ 1048576 ∧ (bkt v n).1 = ((bucket v.toNat n.toNat : Nat) : Int) := by
  unfold bkt at *
  split at h
  · rename_i h1
    rw [if_pos h1]
    split at h
    · cases h
    · rename_i h2
      rw [if_neg h2]
      split at h
      · cases h
      · rename_i h3
        rw [if_neg h3]
        exact ⟨h1, by omega, by omega, rfl⟩
  · cases h
theorem u8_info' : ElemInfo Tryz.prog 5 (.int .u8 0) 1 1 := by unfold ElemInfo; kernel_rfl
theorem u8_size : (Tryz.prog.info? 5).map (·.size) = some 1 := by kernel_rfl
theorem shr_byte (n k : Nat) : ((n : Int) / 2 ^ (8 * k)) % 256 = ((b8 (n / 256 ^ k % 256)).toNat : Int) := by
  rw [b8_toNat (by omega)]
  have e : (256 : Nat) ^ k = 2 ^ (8 * k) := by rw [Nat.pow_mul]
  have e2 : (2 : Int) ^ (8 * k) = ((2 ^ (8 * k) : Nat) : Int) := (Int.natCast_pow 2 (8 * k)).symm
  rw [e, e2, ← Int.natCast_ediv]
  exact (Int.natCast_emod _ 256).symm
theorem cb_at_mid (a : Bytes) (k m : Nat) (h : a.length = k) (hm : 0 < m) : (cb (a ++ List.replicate m 0)).toArray[k]? = some (.int .u8 0) := by
  subst h
  obtain ⟨m, rfl⟩ : ∃ j, m = j + 1 := ⟨m - 1, by omega⟩
  simp [cb, List.replicate_succ]
theorem pad_step {wr : World} {g k n m : Nat} (h : wr.heap[g]? = some (.cells (cb (low k n ++ List.replicate m 0)).toArray 5 (0, 0))) (hm : 0 < m) :
    (wr.setCell ⟨g, k, none⟩ (.int .u8 (((n : Int) / 2 ^ (8 * k)) % 256))).heap[g]? = some (.cells (cb (low (k + 1) n ++ List.replicate (m - 1) 0)).toArray 5 (0, 0)) := by
  have e := set_mid (low k n) k m (b8 (n / 256 ^ k % 256)) (low_length k n) hm
  rw [shr_byte, low_snoc]
  simp only [World.setCell, Array.getElem?_modify, h, if_true, Option.map_some]
  rw [← e]
  congr 2
  apply Array.toList_inj.1
  rw [if_neg (by simp), Array.toList_setIfInBounds]
theorem splice_pad (n B : Nat) (l : Bytes) (h : l.length = n) (hB : n + 4 ≤ B) : splice (cb (low 4 n ++ List.replicate (B - 4) 0)) 4 (cb l) = cb (low 4 n ++ (l ++ List.replicate (B - 4 - n) 0)) := by
  subst h
  unfold splice
  have e0 : (cb (low 4 l.length)).length = 4 := by rw [cb_length, low_length]
  generalize low 4 l.length = q at *
  obtain ⟨m, hm⟩ : ∃ m, B - 4 = l.length + m := ⟨B - 4 - l.length, by omega⟩
  rw [hm, show l.length + m - l.length = m by omega, cb_append, List.take_append_of_le_length (by omega), List.take_of_length_le (by omega), cb_append, cb_append, cb_length, List.drop_append, e0, List.drop_of_length_le (by omega), List.nil_append]
  congr 2
  rw [show 4 + l.length - 4 = l.length by omega]
  unfold cb
  rw [← List.map_drop, List.drop_replicate, show l.length + m - l.length = m by omega]
theorem RB.src {w : World} {A : Option Addr} {l : Bytes} (h : RB w A l) (h0 : 0 < (cb l).length) : ∃ ad, A = some ad ∧ ∀ j v, (cb l)[j]? = some v → w.cell? (ad.add j) = some v := by
  rw [cb_length] at h0
  obtain ⟨b, o, rfl, hc⟩ := h.at_ h0
  refine ⟨_, rfl, fun j v hj => ?_⟩
  have hjl : j < l.length := by
    rcases Nat.lt_or_ge j l.length with h | h
    · exact h
    · rw [List.getElem?_eq_none (by rw [cb_length]; exact h)] at hj; cases hj
  have e : (cb l)[j]? = some (.int .u8 (l[j].toNat : Int)) := by simp [cb, hjl]
  rw [e] at hj
  injection hj with hj
  subst hj
  rcases Nat.eq_zero_or_pos j with rfl | hj0
  · exact hc 0 hjl
  · have e : (⟨b, o, none⟩ : Addr).add j = ⟨b, o + j, none⟩ := by simp [Addr.add]; omega
    rw [e]
    exact hc j hjl
set_option maxRecDepth 100000 in
set_option maxHeartbeats 1600000 in
theorem pad_any (v : Int) (A : Option Addr) (c : Nat) (l : Bytes) (w : World) (hr : RB w A l) :
    Calls Tryz.prog 23 #[.int .i64 v, .slice A l.length c] w (PadPost v l w) := by
  by_cases h : (bkt v l.length).2 = 0
  · obtain ⟨hv, _, h1, h2⟩ := bkt_ok h
    rw [Int.toNat_natCast] at h2
    have hbg := bucket_ge v.toNat l.length
    have hbl := bucket_lt v.toNat l.length
    have hpl := padB_length v.toNat l
    have HP0 : Hid (padB v.toNat l = low 4 l.length ++ (l ++ List.replicate (bucket v.toNat l.length - 4 - l.length) 0)) := Lib.hid rfl
    generalize hpb : padB v.toNat l = pb at *
    have HPB := Lib.hid hpb
    clear hpb
    generalize bucket v.toNat l.length = B at *
    have HPL := Lib.hid hpl
    have HB := Lib.hid h2
    have HH := Lib.hid h
    clear h h2 hpl
    obtain ⟨ii, hi, hz0, hz1, hz2⟩ := info_parts u8_info'
    go_enter Tryz.func23, Tryz.ntmps23
    go_wp2_with fail
    refine (bucket_any v _ _).mono ?_
    rintro e w1 ⟨rfl, hx1⟩
    rw [HB.out, HH.out]
    go_wp2_with (at_make; refine wpList_make_full _ rfl _ _ 22 rfl w1.heap.size 5 ii (.int .u8 0) 1 Tryz.underlying22 hi hz0 hz1 _ _ _ _ B rfl rfl (by omega) (by omega) (by rw [hz2]; omega) (by rw [maxLen]; omega) (Nat.le_refl _) ?_; intro w2 ho2 hg2)
    have hb2 : w2.heap[w1.heap.size]? = some (.cells (cb (List.replicate B 0)).toArray 5 (0, 0)) := by
      have := own_full ho2
      rwa [← Array.toArray_toList (xs := (madeCells (Value.int .u8 0).cells (B * 1))), cb_zero] at this
    have X2 : Ext w w2 := hx1.trans (Ext.of_grown hg2)
    have HB2 := Lib.hid hb2
    have hw1 := hx1.size
    clear ho2 hg2 hb2 hi hz0 hz1 hz2
    go_loopw [22] (fun i wr => ∃ k : Nat, k ≤ 4 ∧ i = .int .i64 k ∧ Hid (wr.heap[w1.heap.size]? = some (.cells (cb (low k l.length ++ List.replicate (B - k) 0)).toArray 5 (0, 0))) ∧ Ext w wr) (fun i _ => 4 - (intOf i).toNat)
    case atStart => exact ⟨0, by omega, rfl, HB2, X2⟩
    case round =>
      obtain ⟨k, hk, rfl, HK, hx⟩ := hrel
      by_cases hlt : k < 4
      · have c0 : wr.cell? ⟨w1.heap.size, k, none⟩ = some (.int .u8 0) := by
          rw [cell_of_row wr _ k _ _ _ HK.out]
          exact cb_at_mid _ k _ (low_length _ _) (by omega)
        have f0 : wr.frozen? ⟨w1.heap.size, k, none⟩ = false := blk_frozen HK.out k
        go_wp2
        refine ⟨⟨k + 1, by omega, by simp, Lib.hid ?_, hx.setCell (p := ⟨w1.heap.size, k, none⟩) hw1 _⟩, by simp [intOf]; omega⟩
        rw [show B - (k + 1) = B - k - 1 by omega]
        exact pad_step HK.out (by omega)
      · obtain rfl : k = 4 := by omega
        have hlw := hx.size
        have HSP := Lib.hid (splice_pad l.length B l rfl hbg.1)
        have HRB := Lib.hid (hr.ext hx)
        have hbel : Below w.heap.size w wr := hx
        have hmn : (cb l).length = Nat.min l.length (B - 4) := by rw [cb_length]; exact (Nat.min_eq_left (by omega)).symm
        have hfit : 4 + (cb l).length ≤ (cb (low 4 l.length ++ List.replicate (B - 4) 0)).length := by rw [cb_length, cb_length, List.length_append, low_length, List.length_replicate]; omega
        have HPOS := Lib.hid (fun h0 => (⟨rfl, HRB.out.src h0⟩ : some (⟨w1.heap.size, 4, none⟩ : Addr) = some ⟨w1.heap.size, 4, none⟩ ∧ ∃ ad, A = some ad ∧ ∀ j v, (cb l)[j]? = some v → wr.cell? (ad.add j) = some v))
        go_wp2_with (with_reducible show wpList _ _ _ _ _ _; refine wpList_copy_splice (o := ⟨some 38, _, _, _, _, _⟩) rfl (.tmp 36) (.tmp 37) 22 22 rfl 5 Tryz.underlying22 u8_size _ _ _ _ _ _ rfl rfl w1.heap.size 4 (cb (low 4 l.length ++ List.replicate (B - 4) 0)) 5 HK.out (cb l) hmn HPOS.out hfit (cb_one l) w.heap.size w hbel hw1 ?_; intro w3 HG3 hB3)
        go_ret2
        have h3 := HG3.out
        rw [HSP.out, ← HP0.out] at h3
        have hpl := HPL.out
        have hml : pb.length ≤ maxLen := by rw [hpl, maxLen]; omega
        have hob := OB.of_blk h3 (base := w.heap.size) hw1 hml
        rw [hpl] at hob
        exact ⟨hB3, fun h => absurd HH.out h, fun _ => ⟨_, rfl, by rw [HPB.out]; exact hob⟩⟩
  · have HH := Lib.hid h
    have t : ((bkt v l.length).2 != 0) = true := by simpa using h
    go_enter Tryz.func23, Tryz.ntmps23
    go_wp2_with fail
    refine (bucket_any v _ _).mono ?_
    rintro e w1 ⟨rfl, hx1⟩
    go_wp2
    go_ret2
    exact ⟨hx1, fun _ => rfl, fun h' => absurd h' HH.out⟩
end Go.Proofs.YtehfoddnlecmjaaGreatDoor
