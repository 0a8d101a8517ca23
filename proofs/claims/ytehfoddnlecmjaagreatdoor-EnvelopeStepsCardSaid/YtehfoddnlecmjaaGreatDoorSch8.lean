/- The contracts of package schema: a value looked at. -/
import Derived.Test.YtehfoddnlecmjaaGreatDoorSch7
set_option linter.unusedVariables false
set_option linter.unusedSimpArgs false
namespace Go.Proofs.YtehfoddnlecmjaaGreatDoor
open Go.RowKit

theorem flat5 (f : SlP → List Value) (hf : ∀ x, (f x).length = 5) : ∀ (xs : List SlP) (i k : Nat) (h : i < xs.length), k < 5 → (xs.flatMap f)[i * 5 + k]? = (f xs[i])[k]?
  | [], i, k, h, _ => by simp at h
  | x :: xs, 0, k, h, hk => by
    simp only [List.flatMap_cons, Nat.zero_mul, Nat.zero_add, List.getElem_cons_zero]
    rw [List.getElem?_append_left (by rw [hf]; exact hk)]
  | x :: xs, i + 1, k, h, hk => by
    simp only [List.flatMap_cons, List.getElem_cons_succ]
    rw [List.getElem?_append_right (by rw [hf]; omega), hf, show (i + 1) * 5 + k - 5 = i * 5 + k by omega]
    exact flat5 f hf xs i k (by simpa using h) hk
theorem slotC_length (s : Sl) (S T : Nat) : (slotC s S T).toList.length = 5 := rfl
/-- A codec as it is read. -/
theorem slots_read {w : World} {base : Nat} {v : Value} {xs : List SlP} (h : SlotsAt w base v xs) (hn : 1 ≤ xs.length) : ∃ g o cap, v = .slice (some ⟨g, o, none⟩) xs.length cap ∧
    (∀ i (h : i < xs.length) k (_ : k < 5), w.cell? ⟨g, o + i * 5 + k, none⟩ = (slotC xs[i].1 xs[i].2.1 xs[i].2.2)[k]?) ∧ (∃ cs, w.heap[g]? = some (.cells cs 163 (0, 0))) := by
  obtain ⟨h1, h2⟩ := h
  rcases h1.2 with ⟨_, h0⟩ | ⟨g, cap, cur, rfl, _, hh, hnc, hc, hs, hx⟩
  · omega
  · refine ⟨g, 0, cap, rfl, fun i hi k hk => ?_, ⟨cur, hh⟩⟩
    rw [cell_of_row w g (0 + i * 5 + k) cur 163 (0, 0) hh]
    have h3 := flat5 (fun x => (slotC x.1 x.2.1 x.2.2).toList) (fun x => slotC_length _ _ _) xs i k hi hk
    rw [← hx, List.getElem?_take] at h3
    rw [if_pos (by omega)] at h3
    rw [show 0 + i * 5 + k = i * 5 + k by omega]
    simpa using h3
/-- A part of a value: a number, bytes. -/
structure PV where
  num : Nat
  data : Bytes
/-- A slice of parts that is read. -/
def PRd (w : World) (P : Option Addr) (ps : List PV) : Prop :=
  ps = [] ∨ ∃ b o, P = some ⟨b, o, none⟩ ∧ ∀ i (h : i < ps.length), ∃ D c P' c', w.cell? ⟨b, o + i * 3, none⟩ = some (.int .u64 ps[i].num) ∧ w.cell? ⟨b, o + i * 3 + 1, none⟩ = some (.slice D ps[i].data.length c) ∧
    w.cell? ⟨b, o + i * 3 + 2, none⟩ = some (.slice P' 0 c') ∧ RB w D ps[i].data ∧ (∀ a, D = some a → a.block < w.heap.size)
theorem PRd.ext {w w' : World} {P : Option Addr} {ps : List PV} (h : PRd w P ps) (hx : Ext w w') : PRd w' P ps := by
  rcases h with h | ⟨b, o, e, h⟩
  · exact .inl h
  · refine .inr ⟨b, o, e, fun i hi => ?_⟩
    obtain ⟨D, c, P', c', h1, h2, h3, h4, h5⟩ := h i hi
    exact ⟨D, c, P', c', hx.cell h1, hx.cell h2, hx.cell h3, h4.ext hx, fun a e => Nat.lt_of_lt_of_le (h5 a e) hx.size⟩
/-- Parts that the slots take. -/
def OkParts (xs : List SlP) (ps : List PV) : Prop := ps.length = xs.length ∧ ∀ i (h1 : i < xs.length) (h2 : i < ps.length), (xs[i].1.kind = 1 ∨ xs[i].1.kind = 2 ∨ xs[i].1.kind = 4 ∨ xs[i].1.kind = 5) ∧ okPart xs[i].1 ps[i].num ps[i].data.length ∧ ps[i].data.length ≤ 4194304 ∧ ps[i].num < 18446744073709551616
set_option maxRecDepth 100000 in
set_option maxHeartbeats 1600000 in
theorem codec_check (C base : Nat) (xs : List SlP) (D P : Option Addr) (cd cp : Nat) (ps : List PV) (deep : Int) (w : World) (hc : CodecAt w base C xs) (hp : PRd w P ps) (hok : OkParts xs ps) (h1 : 1 ≤ xs.length) (h64 : xs.length ≤ 64) :
    Calls Tryz.prog 86 #[.pointer (some ⟨C, 0, none⟩), .agg #[.int .u64 0, .slice D 0 cd, .slice P ps.length cp], .int .i64 deep] w fun e w' => e = .returned (.tuple #[]) ∧ Ext w w' := by
  obtain ⟨hlen, hok⟩ := hok
  rw [hlen]
  obtain ⟨v, p, q, hcd, hsl⟩ := hc
  obtain ⟨g, o, cap, rfl, hsc, hgb⟩ := slots_read hsl h1
  have X0 : Ext w (w.alloc (.cells #[.int .u64 0, .slice D 0 cd, .slice P xs.length cp] 78 (0, 0))) := (Ext.refl _).alloc _
  have a0 := X0.cell (blk3 hcd).1
  have hv := new_blk w (.cells #[.int .u64 0, .slice D 0 cd, .slice P xs.length cp] 78 (0, 0))
  have HSC := Lib.hid hsc
  have HSL := Lib.hid hsl
  have HOK := Lib.hid hok
  have HP := Lib.hid hp
  have HV := Lib.hid hv
  clear hsc hsl hok hp hv hcd hgb
  go_enter Tryz.func86, Tryz.ntmps86
  go_wp2_with fail
  go_region
  go_wp2
  go_loopw [35] (fun i wr => ∃ j : Nat, j ≤ xs.length ∧ i = .int .i64 j ∧ Ext (w.alloc (.cells #[.int .u64 0, .slice D 0 cd, .slice P xs.length cp] 78 (0, 0))) wr) (fun i _ => xs.length - (intOf i).toNat)
  case atStart => exact ⟨0, by omega, rfl, (Ext.refl _).drew⟩
  case round =>
    obtain ⟨j, hj, rfl, hx⟩ := hrel
    by_cases hlt : j < xs.length
    · have hw := X0.trans hx
      have e0 := fun k (h : k < 5) => HSC.out j hlt k h
      obtain ⟨f1, f2, cc, hsf⟩ := slotC_form xs[j].1 xs[j].2.1 xs[j].2.2
      rw [hsf] at e0
      have s0 := hw.cell (show w.cell? ⟨g, o + j * 5, none⟩ = some (.int .i64 xs[j].1.no) by have := e0 0 (by decide); simpa using this)
      have s1 := hw.cell (show w.cell? ⟨g, o + j * 5 + 1, none⟩ = some (.int .i64 (wireK xs[j].1.kind)) by have := e0 1 (by decide); simpa using this)
      have s2 := hw.cell (show w.cell? ⟨g, o + j * 5 + 2, none⟩ = some (.func (.func 110) #[] #[.pointer (some ⟨xs[j].2.1, 0, none⟩), .pointer (some ⟨xs[j].2.2, 0, none⟩)]) by have := e0 2 (by decide); simpa using this)
      have s3 := hw.cell (show w.cell? ⟨g, o + j * 5 + 3, none⟩ = some (.func (.func f1) #[] #[]) by have := e0 3 (by decide); simpa using this)
      have s4 := hw.cell (show w.cell? ⟨g, o + j * 5 + 4, none⟩ = some (.func (.func f2) #[] cc) by have := e0 4 (by decide); simpa using this)
      clear e0 hsf
      obtain ⟨hk, ho, hd4, hn⟩ := HOK.out j hlt (by omega)
      have HSA := Lib.hid ((HSL.out.2 xs[j] (List.getElem_mem hlt)).ext hw)
      rcases HP.out with h | ⟨b, po, rfl, hpc⟩
      · rw [h] at hlen; simp at hlen; omega
      · obtain ⟨D', c', P', cp', q0, q1, q2, q3, q4⟩ := hpc j (by omega)
        replace q0 := hw.cell q0
        replace q1 := hw.cell q1
        replace q2 := hw.cell q2
        obtain ⟨v0, v1, v2, _⟩ := blk3 (hx.heap HV.out)
        have HC := Lib.hid (fun W (hW : Ext wr W) => check_slot xs[j].1 hk xs[j].2.1 xs[j].2.2 ps[j].num D' P' ps[j].data.length c' cp' deep W (by omega) (HSA.out.ext hW) ho)
        generalize ps[j].data.length = dl at *
        generalize ps[j].num = n at *
        clear hpc ho hn q3 q4
        go_upto_region 8 with (fail)
        obtain ⟨W0, hW0⟩ : ∃ W0, wr.alloc (.cells #[.int .i64 xs[j].1.no, .int .i64 (wireK xs[j].1.kind), .func (.func 110) #[] #[.pointer (some ⟨xs[j].2.1, 0, none⟩), .pointer (some ⟨xs[j].2.2, 0, none⟩)], .func (.func f1) #[] #[], .func (.func f2) #[] cc] 163 (0, 0)) = W0 := ⟨_, rfl⟩
        rw [hW0]
        have XW : Ext wr W0 := by rw [← hW0]; exact (Ext.refl _).alloc _
        have k2 : W0.cell? ⟨wr.heap.size, 2, none⟩ = some (.func (.func 110) #[] #[.pointer (some ⟨xs[j].2.1, 0, none⟩), .pointer (some ⟨xs[j].2.2, 0, none⟩)]) := by rw [← hW0]; exact (blk5 (new_blk wr _)).2.2.1
        have kv := XW.cell v2
        have z0 := XW.cell q0
        have z1 := XW.cell q1
        have z2 := XW.cell q2
        clear hW0 s0 s1 s2 s3 s4 v0 v1 v2 q0 q1 q2
        go_region_held3 (fun w' => w'.cell? ⟨wr.heap.size, 2, none⟩ = some (.func (.func 110) #[] #[.pointer (some ⟨xs[j].2.1, 0, none⟩), .pointer (some ⟨xs[j].2.2, 0, none⟩)]) ∧ w'.cell? ⟨w.heap.size, 2, none⟩ = some (.slice (some ⟨b, po, none⟩) xs.length cp) ∧ w'.cell? ⟨b, po + j * 3, none⟩ = some (.int .u64 n) ∧ w'.cell? ⟨b, po + j * 3 + 1, none⟩ = some (.slice D' dl c') ∧ w'.cell? ⟨b, po + j * 3 + 2, none⟩ = some (.slice P' 0 cp'))
          (first
            | go_keep
            | exact ⟨k2, kv, z0, z1, z2⟩
            | exact ⟨hx2.cell k2, hx2.cell kv, hx2.cell z0, hx2.cell z1, hx2.cell z2⟩)
          (first
            | (go_at_call 110; refine (HC.out W0.drew XW.drew).mono ?_; rintro e w2 ⟨rfl, hx2⟩))
        all_goals
          go_wp2
          refine ⟨⟨j + 1, by omega, by simp, hx.trans (XW.drew.trans hx2)⟩, by simp [intOf]; omega⟩
    · obtain rfl : j = xs.length := by omega
      go_wp2
      go_end0
      exact ⟨rfl, X0.trans hx⟩
end Go.Proofs.YtehfoddnlecmjaaGreatDoor
