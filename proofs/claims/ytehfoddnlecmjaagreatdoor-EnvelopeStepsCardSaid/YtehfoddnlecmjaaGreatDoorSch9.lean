/- The contracts of package schema: a value written. -/
import Derived.Test.YtehfoddnlecmjaaGreatDoorSch8
set_option linter.unusedVariables false
set_option linter.unusedSimpArgs false
namespace Go.Proofs.YtehfoddnlecmjaaGreatDoor
open Go.RowKit

/-- The fields that a value's parts are. -/
def fieldsOf (xs : List SlP) (ps : List PV) : List Fld := List.zipWith (fun x p => ⟨x.1.no, wireK x.1.kind, p.num, p.data⟩) xs ps
/-- A slice of fields of the call's own; their data is read. -/
def FW (w : World) (base : Nat) (v : Value) (ys : List (Fld × Value)) : Prop :=
  w.ownsRow base 60 4 v ys.length (ys.flatMap fun x => fcells x.1 x.2) ∧ ∀ y ∈ ys, ∃ D c, y.2 = .slice D y.1.data.length c ∧ RB w D y.1.data ∧ (∀ a, D = some a → a.block < base)
theorem flat4 (f : (Fld × Value) → List Value) (hf : ∀ x, (f x).length = 4) : ∀ (xs : List (Fld × Value)) (i k : Nat) (h : i < xs.length), k < 4 → (xs.flatMap f)[i * 4 + k]? = (f xs[i])[k]?
  | [], i, k, h, _ => by simp at h
  | x :: xs, 0, k, h, hk => by
    simp only [List.flatMap_cons, Nat.zero_mul, Nat.zero_add, List.getElem_cons_zero]
    rw [List.getElem?_append_left (by rw [hf]; exact hk)]
  | x :: xs, i + 1, k, h, hk => by
    simp only [List.flatMap_cons, List.getElem_cons_succ]
    rw [List.getElem?_append_right (by rw [hf]; omega), hf, show (i + 1) * 4 + k - 4 = i * 4 + k by omega]
    exact flat4 f hf xs i k (by simpa using h) hk
theorem FW.reads {w : World} {base : Nat} {v : Value} {ys : List (Fld × Value)} (h : FW w base v ys) (hb : base ≤ w.heap.size) : ∃ A c, v = .slice A ys.length c ∧ FRd w w.heap.size A (ys.map (·.1)) := by
  obtain ⟨h1, h2⟩ := h
  rcases h1.2 with ⟨rfl, h0⟩ | ⟨g, cap, cur, rfl, hg, hh, hnc, hc, hs, hx⟩
  · have : ys = [] := List.eq_nil_of_length_eq_zero h0
    subst this
    exact ⟨none, 0, rfl, .inl rfl⟩
  · refine ⟨_, _, rfl, .inr ⟨g, 0, rfl, lt_of_heap hh, fun i hi => ?_⟩⟩
    have hi' : i < ys.length := by simpa using hi
    obtain ⟨D, c, e, hr, hD⟩ := h2 ys[i] (List.getElem_mem hi')
    have key : ∀ k (_ : k < 4), w.cell? ⟨g, 0 + i * 4 + k, none⟩ = (fcells ys[i].1 ys[i].2)[k]? := by
      intro k hk
      rw [cell_of_row w g (0 + i * 4 + k) cur 60 (0, 0) hh]
      have h3 := flat4 (fun x => fcells x.1 x.2) (fun x => rfl) ys i k hi' hk
      rw [← hx, List.getElem?_take, if_pos (by omega)] at h3
      rw [show 0 + i * 4 + k = i * 4 + k by omega]
      simpa using h3
    have e1 : (ys.map (·.1))[i] = ys[i].1 := by simp
    refine ⟨D, c, ?_, ?_, ?_, ?_, ?_, ?_⟩
    · rw [e1]; have := key 0 (by decide); simpa [fcells] using this
    · rw [e1]; have := key 1 (by decide); simpa [fcells] using this
    · rw [e1]; have := key 2 (by decide); simpa [fcells] using this
    · rw [e1, ← e]; have := key 3 (by decide); simpa [fcells] using this
    · rw [e1]; exact hr
    · exact fun a ea => Nat.lt_of_lt_of_le (hD a ea) hb
theorem fieldsOf_get {xs : List SlP} {ps : List PV} {j : Nat} (h1 : j < xs.length) (h2 : j < ps.length) : (fieldsOf xs ps).take (j + 1) = (fieldsOf xs ps).take j ++ [⟨xs[j].1.no, wireK xs[j].1.kind, ps[j].num, ps[j].data⟩] := by
  have h3 : j < (fieldsOf xs ps).length := by simp [fieldsOf]; omega
  rw [List.take_succ_eq_append_getElem h3]
  simp [fieldsOf]
def WrPost (fs : List Fld) (w : World) (e : Ending) (w' : World) : Prop := ∃ v, e = .returned v ∧ OB w' w.heap.size v (encB fs) ∧ Ext w w'
/-- What stands in the field that a slot's closure makes. -/
theorem fw_push {base : Nat} {w2 w3 : World} {v v3 : Value} {ys : List (Fld × Value)} {f : Fld} {D : Option Addr} {c : Nat} (ho : FW w2 base v ys) (ho3 : w3.ownsRow base 60 4 v3 (ys.length + 1) ((ys.flatMap fun x => fcells x.1 x.2) ++ [.int .i64 f.no, .int .i64 f.ty, .int .u64 f.num, .slice D f.data.length c]))
    (hg : w2.grownBy w3 v.ownBlock) (hr : RB w2 D f.data) (hD : ∀ a, D = some a → a.block < base) : FW w3 base v3 (ys ++ [(f, .slice D f.data.length c)]) := by
  have hne : ∀ {D : Option Addr}, (∀ a, D = some a → a.block < base) → ∀ a, D = some a → some a.block ≠ v.ownBlock := fun h a ea e => by have h1 := h a ea; have h2 := own_ge ho.1 _ e.symm; omega
  refine ⟨by simpa [fcells] using ho3, fun y hy => ?_⟩
  rcases List.mem_append.1 hy with hy | hy
  · obtain ⟨D', c', e, h1, h2⟩ := ho.2 y hy
    exact ⟨D', c', e, h1.grown hg (hne h2), h2⟩
  · simp at hy
    subst hy
    exact ⟨D, c, rfl, hr.grown hg (hne hD), hD⟩
theorem FW.ext {w w' : World} {base : Nat} {v : Value} {ys : List (Fld × Value)} (h : FW w base v ys) (hx : Ext w w') : FW w' base v ys :=
  ⟨own_gr (S := fun _ => False) h.1 (Gr.of_ext hx) (fun _ _ => id), fun y hy => by obtain ⟨D, c, e, h1, h2⟩ := h.2 y hy; exact ⟨D, c, e, h1.ext hx, h2⟩⟩
set_option maxRecDepth 100000 in
set_option maxHeartbeats 16000000 in
theorem codec_write (C base : Nat) (xs : List SlP) (D P : Option Addr) (cd cp : Nat) (ps : List PV) (w : World) (hc : CodecAt w base C xs) (hp : PRd w P ps) (hok : OkParts xs ps) (h1 : 1 ≤ xs.length) (h64 : xs.length ≤ 64) (hf : okFs (fieldsOf xs ps)) (hl : (encB (fieldsOf xs ps)).length ≤ 4194304) :
    Calls Tryz.prog 68 #[.pointer (some ⟨C, 0, none⟩), .agg #[.int .u64 0, .slice D 0 cd, .slice P ps.length cp]] w (WrPost (fieldsOf xs ps) w) := by
  obtain ⟨hlen, hok⟩ := hok
  rw [hlen]
  obtain ⟨v, p, q, hcd, hsl⟩ := hc
  obtain ⟨g, o, cap, rfl, hsc, hgb⟩ := slots_read hsl h1
  have X0 : Ext w (w.alloc (.cells #[.int .u64 0, .slice D 0 cd, .slice P xs.length cp] 78 (0, 0))) := (Ext.refl _).alloc _
  have a0 := X0.cell (blk3 hcd).1
  have hv := new_blk w (.cells #[.int .u64 0, .slice D 0 cd, .slice P xs.length cp] 78 (0, 0))
  have HSC := Lib.hid hsc
  have HSL := Lib.hid hsl
  have HOK := Lib.hid hok
  have HP := Lib.hid hp
  have HV := Lib.hid hv
  have HF := Lib.hid hf
  have HL := Lib.hid hl
  clear hsc hsl hok hp hv hcd hgb hf hl
  go_enter Tryz.func68, Tryz.ntmps68
  go_wp2
  go_loopw [5, 16] (fun l i wr => ∃ (j : Nat) (ys : List (Fld × Value)), j ≤ xs.length ∧ i = .int .i64 j ∧ Hid (FW wr w.heap.size l ys) ∧ Hid (ys.map (·.1) = (fieldsOf xs ps).take j) ∧ Ext (w.alloc (.cells #[.int .u64 0, .slice D 0 cd, .slice P xs.length cp] 78 (0, 0))) wr) (fun _ i _ => xs.length - (intOf i).toNat)
  case atStart => exact ⟨0, [], by omega, rfl, Lib.hid ⟨World.ownsRow_nil _ _ _ _, by simp⟩, Lib.hid (by simp), Ext.refl _⟩
  case round =>
    obtain ⟨j, ys, hj, rfl, HY, HYS, hx⟩ := hrel
    by_cases hlt : j < xs.length
    · have hw := X0.trans hx
      have e0 := fun k (h : k < 5) => HSC.out j hlt k h
      obtain ⟨hk, ho, hd4, hn⟩ := HOK.out j hlt (by omega)
      have hyl : ys.length = j := by have := congrArg List.length HYS.out; simp [fieldsOf] at this; omega
      have HG := Lib.hid (fieldsOf_get hlt (show j < ps.length by omega))
      rcases HP.out with h | ⟨b, po, rfl, hpc⟩
      · rw [h] at hlen; simp at hlen; omega
      · obtain ⟨D', c', P', cp', q0, q1, q2, q3, q4⟩ := hpc j (by omega)
        have HRB := Lib.hid (q3.ext hw)
        have HDB := Lib.hid q4
        have hbw : w.heap.size ≤ wr.heap.size := hw.size
        replace q0 := hw.cell q0
        replace q1 := hw.cell q1
        replace q2 := hw.cell q2
        obtain ⟨v0, v1, v2, _⟩ := blk3 (hx.heap HV.out)
        clear hpc hn q3 q4
        by_cases hdk : xs[j].1.kind = 5 ∨ xs[j].1.kind = 6
        · have hsf : slotC xs[j].1 xs[j].2.1 xs[j].2.2 = #[.int .i64 xs[j].1.no, .int .i64 (wireK xs[j].1.kind), .func (.func 110) #[] #[.pointer (some ⟨xs[j].2.1, 0, none⟩), .pointer (some ⟨xs[j].2.2, 0, none⟩)], .func (.func 115) #[] #[], .func (.func 116) #[] #[.pointer (some ⟨xs[j].2.1, 0, none⟩)]] := by unfold slotC; rw [if_pos hdk, if_pos hdk]
          rw [hsf] at e0
          have s0 := hw.cell (show w.cell? ⟨g, o + j * 5, none⟩ = some (.int .i64 xs[j].1.no) by have := e0 0 (by decide); simpa using this)
          have s1 := hw.cell (show w.cell? ⟨g, o + j * 5 + 1, none⟩ = some (.int .i64 (wireK xs[j].1.kind)) by have := e0 1 (by decide); simpa using this)
          have s2 := hw.cell (show w.cell? ⟨g, o + j * 5 + 2, none⟩ = some (.func (.func 110) #[] #[.pointer (some ⟨xs[j].2.1, 0, none⟩), .pointer (some ⟨xs[j].2.2, 0, none⟩)]) by have := e0 2 (by decide); simpa using this)
          have s3 := hw.cell (show w.cell? ⟨g, o + j * 5 + 3, none⟩ = some (.func (.func 115) #[] #[]) by have := e0 3 (by decide); simpa using this)
          have s4 := hw.cell (show w.cell? ⟨g, o + j * 5 + 4, none⟩ = some (.func (.func 116) #[] #[.pointer (some ⟨xs[j].2.1, 0, none⟩)]) by have := e0 4 (by decide); simpa using this)
          clear e0 hsf
          have HO := Lib.hid ho.2
          have HDK := Lib.hid hdk
          obtain ⟨dl, hdl⟩ : ∃ dl, dl = ps[j].data.length := ⟨_, rfl⟩
          obtain ⟨n, hn⟩ : ∃ n, n = ps[j].num := ⟨_, rfl⟩
          have HDL := Lib.hid hdl
          have HN := Lib.hid hn
          rw [← hdl] at q1 hd4
          rw [← hn] at q0
          clear ho hdl hn hdk hk
          go_upto_region 5 with (fail)
          obtain ⟨W0, hW0⟩ : ∃ W0, wr.alloc (.cells #[.int .i64 xs[j].1.no, .int .i64 (wireK xs[j].1.kind), .func (.func 110) #[] #[.pointer (some ⟨xs[j].2.1, 0, none⟩), .pointer (some ⟨xs[j].2.2, 0, none⟩)], .func (.func 115) #[] #[], .func (.func 116) #[] #[.pointer (some ⟨xs[j].2.1, 0, none⟩)]] 163 (0, 0)) = W0 := ⟨_, rfl⟩
          rw [hW0]
          have XW : Ext wr W0 := by rw [← hW0]; exact (Ext.refl _).alloc _
          have kb : W0.heap[wr.heap.size]? = some (.cells #[.int .i64 xs[j].1.no, .int .i64 (wireK xs[j].1.kind), .func (.func 110) #[] #[.pointer (some ⟨xs[j].2.1, 0, none⟩), .pointer (some ⟨xs[j].2.2, 0, none⟩)], .func (.func 115) #[] #[], .func (.func 116) #[] #[.pointer (some ⟨xs[j].2.1, 0, none⟩)]] 163 (0, 0)) := by rw [← hW0]; exact new_blk wr _
          have k3 := (blk5 kb).2.2.2.1
          have kv := XW.cell v2
          have z0 := XW.cell q0
          have z1 := XW.cell q1
          have z2 := XW.cell q2
          have hwlt : wr.heap.size < W0.heap.size := lt_of_heap kb
          have hblt : b < W0.heap.size := lt_of_cell z0
          have hvlt : w.heap.size < W0.heap.size := lt_of_cell kv
          have KB := Lib.hid kb
          clear hW0 s0 s1 s2 s3 s4 v0 v1 v2 q0 q1 q2 kb
          go_cut [8] (fun s8 wx => ∃ F, s8 = .pointer (some ⟨F, 0, none⟩) ∧ wx.heap[F]? = some (.cells #[.int .i64 0, .int .i64 0, .int .u64 0, .slice D' dl c'] 60 (0, 0)) ∧ Ext W0 wx ∧ W0.heap.size ≤ F)
          case first =>
            have hjl : (j : Int) < (xs.length : Int) := by omega
            clear HSC HSL HOK HP HV HF HL HY HYS HG HRB HDB HO HDK HDL HN KB hx hw X0 a0 hbw h1 h64 hlen hj hyl hd4 XW
            have n1 := World.new_ne W0 _ k3
            have n2 := World.new_ne W0 _ kv
            have n3 := World.new_ne W0 _ z0
            simp only at n1 n2 n3
            go_region_held3 (fun w' => w'.cell? ⟨wr.heap.size, 3, none⟩ = some (.func (.func 115) #[] #[]) ∧ w'.cell? ⟨w.heap.size, 2, none⟩ = some (.slice (some ⟨b, po, none⟩) xs.length cp) ∧ w'.cell? ⟨b, po + j * 3, none⟩ = some (.int .u64 n) ∧ w'.cell? ⟨b, po + j * 3 + 1, none⟩ = some (.slice D' dl c') ∧ w'.cell? ⟨b, po + j * 3 + 2, none⟩ = some (.slice P' 0 cp'))
              (go_keep)
              (first
                | (go_at_call 115; refine (write_data n D' P' dl c' 0 cp' W0.drew).mono ?_; rintro e w2 ⟨rfl, hx2⟩; have hy2 := (Ext.refl W0).drew.trans hx2; have m1 := hy2.cell k3; have m2 := hy2.cell kv; have m3 := hy2.cell z0; have m4 := hy2.cell z1; have m5 := hy2.cell z2; have n4 := World.new_ne w2 _ m1; have n5 := World.new_ne w2 _ m2; have n6 := World.new_ne w2 _ m3; simp only at n4 n5 n6)
                | (go_at_call 115; refine (write_data n D' P' dl c' 0 cp' (W0.alloc (.cells #[.int .i64 0, .int .i64 0, .int .u64 0, .slice none 0 0] 60 (0, 0))).drew).mono ?_; rintro e w2 ⟨rfl, hx2⟩; have hy2 := ((Ext.refl W0).alloc _).drew.trans hx2; have m1 := hy2.cell k3; have m2 := hy2.cell kv; have m3 := hy2.cell z0; have m4 := hy2.cell z1; have m5 := hy2.cell z2; have hz2 := hx2.heap (new_blk W0 _); have bz0 := (blk4 hz2).1; have bz1 := (blk4 hz2).2.1; have bz2 := (blk4 hz2).2.2.1; have bz3 := (blk4 hz2).2.2.2.1; have by0 := blk_frozen hz2 0; have by1 := blk_frozen hz2 1; have by2 := blk_frozen hz2 2; have by3 := blk_frozen hz2 3))
            all_goals
              go_wp2
              go_meet
              first
                | exact ⟨_, rfl, new_blk _ _, hy2.alloc _, hy2.size⟩
                | exact ⟨_, rfl, by simp [World.setCell, Array.getElem?_modify, hz2], (((hy2.setCell (p := ⟨W0.heap.size, 0, none⟩) (Nat.le_refl _) _).setCell (p := ⟨W0.heap.size, 1, none⟩) (Nat.le_refl _) _).setCell (p := ⟨W0.heap.size, 2, none⟩) (Nat.le_refl _) _).setCell (p := ⟨W0.heap.size, 3, none⟩) (Nat.le_refl _) _, Nat.le_refl _⟩
          case rest =>
            obtain ⟨F, rfl, hF, hX, hFl⟩ := hcut
            obtain ⟨b0, b1, b2, b3, f0, f1, f2, f3⟩ := blk4 hF
            obtain ⟨t0, t1, t2, t3, t4, _⟩ := blk5 (hX.heap KB.out)
            have hne : wr.heap.size ≠ F := by omega
            have HXW := Lib.hid hX
            have HFF := Lib.hid hF
            clear hX hF
            go_wp2_with fail
            go_region
            obtain ⟨W5, hW5⟩ : ∃ W5, ((wc.setCell ⟨F, 0, none⟩ (.int .i64 xs[j].1.no)).setCell ⟨F, 1, none⟩ (.int .i64 (wireK xs[j].1.kind))).drew = W5 := ⟨_, rfl⟩
            rw [hW5]
            have X5 : Ext wr W5 := by rw [← hW5]; exact XW.trans ((((HXW.out.setCell (p := ⟨F, 0, none⟩) hFl _).setCell (p := ⟨F, 1, none⟩) hFl _)).drew)
            have hF5 : W5.heap[F]? = some (.cells #[.int .i64 xs[j].1.no, .int .i64 (wireK xs[j].1.kind), .int .u64 0, .slice D' dl c'] 60 (0, 0)) := by
              rw [← hW5]
              show ((wc.setCell ⟨F, 0, none⟩ _).setCell ⟨F, 1, none⟩ _).heap[F]? = _
              simp [World.setCell, Array.getElem?_modify, HFF.out]
            obtain ⟨b0, b1, b2, b3, f0, f1, f2, f3⟩ := blk4 hF5
            have HY5 := Lib.hid (HY.out.ext X5)
            have hown5 := HY5.out.1
            have hl63 : ys.length + 1 ≤ maxLen := by simp only [maxLen]; omega
            have hlb : (ys.length + 1) * 48 ≤ 140737488355328 := by omega
            have hb5 : w.heap.size ≤ W5.heap.size := Nat.le_trans hbw X5.size
            clear hW5 hF5
            go_wp2_with (at_builtin; go_must (refine wpList_app1 (by rfl) (.tmp 35) (.tmp 37) (by rfl) Tryz.underlying55 f_info (by rfl) (by decide) (by rfl) hown5 #[.int .i64 xs[j].1.no, .int .i64 (wireK xs[j].1.kind), .int .u64 0, .slice D' dl c'] (0, 0) (by rfl) (fc_one ⟨xs[j].1.no, wireK xs[j].1.kind, 0, []⟩ rfl) 1 (by rfl) hl63 hlb hb5 ?_); intro v3 w3 ho3 hg3 hat3; obtain ⟨g3, c3, rfl⟩ := own_succ ho3)
            have hfin := (hx.trans X5)
            have hfin2 : Ext (w.alloc (.cells #[.int .u64 0, .slice D 0 cd, .slice (some ⟨b, po, none⟩) xs.length cp] 78 (0, 0))) w3 := Below.grown hfin hg3 hfin.size (fun k hk => by
              have h1 := own_ge hown5 k hk
              have h2 := own_ne_blk hown5 (X5.heap (hx.heap HV.out)) (by decide)
              simp
              rcases Nat.lt_or_ge w.heap.size k with h | h
              · omega
              · have : k = w.heap.size := by omega
                subst this
                exact absurd hk h2)
            refine ⟨⟨j + 1, ys ++ [(⟨xs[j].1.no, wireK xs[j].1.kind, 0, ps[j].data⟩, (.slice D' ps[j].data.length c' : Value))], by omega, by simp, Lib.hid ?_, Lib.hid ?_, hfin2⟩, by simp [intOf]; omega⟩
            · rw [HDL.out] at ho3
              have e : (Value.slice (some ⟨g3, 0, none⟩) (j + 1) c3) = .slice (some ⟨g3, 0, none⟩) (ys.length + 1) c3 := by rw [hyl]
              rw [e]
              exact fw_push HY5.out ho3 hg3 (HRB.out.ext X5) HDB.out
            · rw [List.map_append, HYS.out, HG.out]
              congr 1
              have h0 := HO.out; rw [if_pos HDK.out] at h0; rw [h0]; rfl
        · have hsf : slotC xs[j].1 xs[j].2.1 xs[j].2.2 = #[.int .i64 xs[j].1.no, .int .i64 (wireK xs[j].1.kind), .func (.func 110) #[] #[.pointer (some ⟨xs[j].2.1, 0, none⟩), .pointer (some ⟨xs[j].2.2, 0, none⟩)], .func (.func 112) #[] #[], .func (.func 113) #[] #[.pointer (some ⟨xs[j].2.1, 0, none⟩)]] := by unfold slotC; rw [if_neg hdk, if_neg hdk]
          rw [hsf] at e0
          have s0 := hw.cell (show w.cell? ⟨g, o + j * 5, none⟩ = some (.int .i64 xs[j].1.no) by have := e0 0 (by decide); simpa using this)
          have s1 := hw.cell (show w.cell? ⟨g, o + j * 5 + 1, none⟩ = some (.int .i64 (wireK xs[j].1.kind)) by have := e0 1 (by decide); simpa using this)
          have s2 := hw.cell (show w.cell? ⟨g, o + j * 5 + 2, none⟩ = some (.func (.func 110) #[] #[.pointer (some ⟨xs[j].2.1, 0, none⟩), .pointer (some ⟨xs[j].2.2, 0, none⟩)]) by have := e0 2 (by decide); simpa using this)
          have s3 := hw.cell (show w.cell? ⟨g, o + j * 5 + 3, none⟩ = some (.func (.func 112) #[] #[]) by have := e0 3 (by decide); simpa using this)
          have s4 := hw.cell (show w.cell? ⟨g, o + j * 5 + 4, none⟩ = some (.func (.func 113) #[] #[.pointer (some ⟨xs[j].2.1, 0, none⟩)]) by have := e0 4 (by decide); simpa using this)
          clear e0 hsf
          have HO := Lib.hid ho.2
          have HDK := Lib.hid hdk
          obtain ⟨dl, hdl⟩ : ∃ dl, dl = ps[j].data.length := ⟨_, rfl⟩
          obtain ⟨n, hn⟩ : ∃ n, n = ps[j].num := ⟨_, rfl⟩
          have HDL := Lib.hid hdl
          have HN := Lib.hid hn
          rw [← hdl] at q1 hd4
          rw [← hn] at q0
          clear ho hdl hn hdk hk
          go_upto_region 5 with (fail)
          obtain ⟨W0, hW0⟩ : ∃ W0, wr.alloc (.cells #[.int .i64 xs[j].1.no, .int .i64 (wireK xs[j].1.kind), .func (.func 110) #[] #[.pointer (some ⟨xs[j].2.1, 0, none⟩), .pointer (some ⟨xs[j].2.2, 0, none⟩)], .func (.func 112) #[] #[], .func (.func 113) #[] #[.pointer (some ⟨xs[j].2.1, 0, none⟩)]] 163 (0, 0)) = W0 := ⟨_, rfl⟩
          rw [hW0]
          have XW : Ext wr W0 := by rw [← hW0]; exact (Ext.refl _).alloc _
          have kb : W0.heap[wr.heap.size]? = some (.cells #[.int .i64 xs[j].1.no, .int .i64 (wireK xs[j].1.kind), .func (.func 110) #[] #[.pointer (some ⟨xs[j].2.1, 0, none⟩), .pointer (some ⟨xs[j].2.2, 0, none⟩)], .func (.func 112) #[] #[], .func (.func 113) #[] #[.pointer (some ⟨xs[j].2.1, 0, none⟩)]] 163 (0, 0)) := by rw [← hW0]; exact new_blk wr _
          have k3 := (blk5 kb).2.2.2.1
          have kv := XW.cell v2
          have z0 := XW.cell q0
          have z1 := XW.cell q1
          have z2 := XW.cell q2
          have hwlt : wr.heap.size < W0.heap.size := lt_of_heap kb
          have hblt : b < W0.heap.size := lt_of_cell z0
          have hvlt : w.heap.size < W0.heap.size := lt_of_cell kv
          have KB := Lib.hid kb
          clear hW0 s0 s1 s2 s3 s4 v0 v1 v2 q0 q1 q2 kb
          go_cut [8] (fun s8 wx => ∃ F, s8 = .pointer (some ⟨F, 0, none⟩) ∧ wx.heap[F]? = some (.cells #[.int .i64 0, .int .i64 0, .int .u64 n, .slice none 0 0] 60 (0, 0)) ∧ Ext W0 wx ∧ W0.heap.size ≤ F)
          case first =>
            have hjl : (j : Int) < (xs.length : Int) := by omega
            clear HSC HSL HOK HP HV HF HL HY HYS HG HRB HDB HO HDK HDL HN KB hx hw X0 a0 hbw h1 h64 hlen hj hyl hd4 XW
            have n1 := World.new_ne W0 _ k3
            have n2 := World.new_ne W0 _ kv
            have n3 := World.new_ne W0 _ z0
            simp only at n1 n2 n3
            go_region_held3 (fun w' => w'.cell? ⟨wr.heap.size, 3, none⟩ = some (.func (.func 112) #[] #[]) ∧ w'.cell? ⟨w.heap.size, 2, none⟩ = some (.slice (some ⟨b, po, none⟩) xs.length cp) ∧ w'.cell? ⟨b, po + j * 3, none⟩ = some (.int .u64 n) ∧ w'.cell? ⟨b, po + j * 3 + 1, none⟩ = some (.slice D' dl c') ∧ w'.cell? ⟨b, po + j * 3 + 2, none⟩ = some (.slice P' 0 cp'))
              (go_keep)
              (first
                | (go_at_call 112; refine (write_num n D' P' dl c' 0 cp' W0.drew).mono ?_; rintro e w2 ⟨rfl, hx2⟩; have hy2 := (Ext.refl W0).drew.trans hx2; have m1 := hy2.cell k3; have m2 := hy2.cell kv; have m3 := hy2.cell z0; have m4 := hy2.cell z1; have m5 := hy2.cell z2; have n4 := World.new_ne w2 _ m1; have n5 := World.new_ne w2 _ m2; have n6 := World.new_ne w2 _ m3; simp only at n4 n5 n6)
                | (go_at_call 112; refine (write_num n D' P' dl c' 0 cp' (W0.alloc (.cells #[.int .i64 0, .int .i64 0, .int .u64 0, .slice none 0 0] 60 (0, 0))).drew).mono ?_; rintro e w2 ⟨rfl, hx2⟩; have hy2 := ((Ext.refl W0).alloc _).drew.trans hx2; have m1 := hy2.cell k3; have m2 := hy2.cell kv; have m3 := hy2.cell z0; have m4 := hy2.cell z1; have m5 := hy2.cell z2; have hz2 := hx2.heap (new_blk W0 _); have bz0 := (blk4 hz2).1; have bz1 := (blk4 hz2).2.1; have bz2 := (blk4 hz2).2.2.1; have bz3 := (blk4 hz2).2.2.2.1; have by0 := blk_frozen hz2 0; have by1 := blk_frozen hz2 1; have by2 := blk_frozen hz2 2; have by3 := blk_frozen hz2 3))
            all_goals
              go_wp2
              go_meet
              first
                | exact ⟨_, rfl, new_blk _ _, hy2.alloc _, hy2.size⟩
                | exact ⟨_, rfl, by simp [World.setCell, Array.getElem?_modify, hz2], (((hy2.setCell (p := ⟨W0.heap.size, 0, none⟩) (Nat.le_refl _) _).setCell (p := ⟨W0.heap.size, 1, none⟩) (Nat.le_refl _) _).setCell (p := ⟨W0.heap.size, 2, none⟩) (Nat.le_refl _) _).setCell (p := ⟨W0.heap.size, 3, none⟩) (Nat.le_refl _) _, Nat.le_refl _⟩
          case rest =>
            obtain ⟨F, rfl, hF, hX, hFl⟩ := hcut
            obtain ⟨b0, b1, b2, b3, f0, f1, f2, f3⟩ := blk4 hF
            obtain ⟨t0, t1, t2, t3, t4, _⟩ := blk5 (hX.heap KB.out)
            have hne : wr.heap.size ≠ F := by omega
            have HXW := Lib.hid hX
            have HFF := Lib.hid hF
            clear hX hF
            go_wp2_with fail
            go_region
            obtain ⟨W5, hW5⟩ : ∃ W5, ((wc.setCell ⟨F, 0, none⟩ (.int .i64 xs[j].1.no)).setCell ⟨F, 1, none⟩ (.int .i64 (wireK xs[j].1.kind))).drew = W5 := ⟨_, rfl⟩
            rw [hW5]
            have X5 : Ext wr W5 := by rw [← hW5]; exact XW.trans ((((HXW.out.setCell (p := ⟨F, 0, none⟩) hFl _).setCell (p := ⟨F, 1, none⟩) hFl _)).drew)
            have hF5 : W5.heap[F]? = some (.cells #[.int .i64 xs[j].1.no, .int .i64 (wireK xs[j].1.kind), .int .u64 n, .slice none 0 0] 60 (0, 0)) := by
              rw [← hW5]
              show ((wc.setCell ⟨F, 0, none⟩ _).setCell ⟨F, 1, none⟩ _).heap[F]? = _
              simp [World.setCell, Array.getElem?_modify, HFF.out]
            obtain ⟨b0, b1, b2, b3, f0, f1, f2, f3⟩ := blk4 hF5
            have HY5 := Lib.hid (HY.out.ext X5)
            have hown5 := HY5.out.1
            have hl63 : ys.length + 1 ≤ maxLen := by simp only [maxLen]; omega
            have hlb : (ys.length + 1) * 48 ≤ 140737488355328 := by omega
            have hb5 : w.heap.size ≤ W5.heap.size := Nat.le_trans hbw X5.size
            clear hW5 hF5
            go_wp2_with (at_builtin; go_must (refine wpList_app1 (by rfl) (.tmp 35) (.tmp 37) (by rfl) Tryz.underlying55 f_info (by rfl) (by decide) (by rfl) hown5 #[.int .i64 xs[j].1.no, .int .i64 (wireK xs[j].1.kind), .int .u64 n, .slice none 0 0] (0, 0) (by rfl) (fc_one ⟨xs[j].1.no, wireK xs[j].1.kind, n, []⟩ rfl) 1 (by rfl) hl63 hlb hb5 ?_); intro v3 w3 ho3 hg3 hat3; obtain ⟨g3, c3, rfl⟩ := own_succ ho3)
            have hfin := (hx.trans X5)
            have hfin2 : Ext (w.alloc (.cells #[.int .u64 0, .slice D 0 cd, .slice (some ⟨b, po, none⟩) xs.length cp] 78 (0, 0))) w3 := Below.grown hfin hg3 hfin.size (fun k hk => by
              have h1 := own_ge hown5 k hk
              have h2 := own_ne_blk hown5 (X5.heap (hx.heap HV.out)) (by decide)
              simp
              rcases Nat.lt_or_ge w.heap.size k with h | h
              · omega
              · have : k = w.heap.size := by omega
                subst this
                exact absurd hk h2)
            refine ⟨⟨j + 1, ys ++ [(⟨xs[j].1.no, wireK xs[j].1.kind, n, []⟩, (.slice none 0 0 : Value))], by omega, by simp, Lib.hid ?_, Lib.hid ?_, hfin2⟩, by simp [intOf]; omega⟩
            · skip
              have e : (Value.slice (some ⟨g3, 0, none⟩) (j + 1) c3) = .slice (some ⟨g3, 0, none⟩) (ys.length + 1) c3 := by rw [hyl]
              rw [e]
              exact fw_push HY5.out ho3 hg3 (RB.nil _ _) (fun a h => by cases h)
            · rw [List.map_append, HYS.out, HG.out]
              congr 1
              have h0 := HO.out; rw [if_neg HDK.out] at h0; rw [List.eq_nil_of_length_eq_zero h0, HN.out]; rfl
    · obtain rfl : j = xs.length := by omega
      obtain ⟨A, c, rfl, hfr⟩ := HY.out.reads (by have := X0.size; have := hx.size; omega)
      have hyl : ys.length = (fieldsOf xs ps).length := by
        have h := congrArg List.length HYS.out
        simp [fieldsOf] at h
        simp [fieldsOf]
        omega
      have hfs : ys.map (·.1) = fieldsOf xs ps := by rw [HYS.out, List.take_of_length_le (by simp [fieldsOf]; omega)]
      rw [hfs] at hfr
      rw [hyl]
      have HFR := Lib.hid hfr
      clear hfr hfs hyl
      go_wp2_with fail
      refine (encode_any A c (fieldsOf xs ps) _ HFR.out (by simp [fieldsOf]; omega) HF.out HL.out).mono ?_
      rintro e w1 ⟨v, rfl, ho, hx1⟩
      go_wp2
      go_ret
      exact ⟨v, rfl, ho.base (by have := X0.size; have := hx.size; omega), (X0.trans hx).trans hx1⟩
end Go.Proofs.YtehfoddnlecmjaaGreatDoor
