/- The contracts of package envelope: Pack. -/
import Derived.Test.YtehfoddnlecmjaaGreatDoorEnv6
import Derived.Test.YtehfoddnlecmjaaGreatDoorEnv4
import Derived.Test.YtehfoddnlecmjaaGreatDoorSch14
import Derived.Test.YtehfoddnlecmjaaGreatDoorPureEnvl
set_option linter.unusedVariables false
set_option linter.unusedSimpArgs false
namespace Go.Proofs.YtehfoddnlecmjaaGreatDoor
open Go.RowKit

/-- An envelope as a value. -/
def envC (v : Int) (n : Bytes) (H B : Option Addr) (hl hc bl bc : Nat) : List Value := .int .i64 v :: (cb n ++ [.slice H hl hc, .slice B bl bc])
def packOk (v : Int) (h b : Bytes) : Prop := (v = 1 ∨ v = 2) ∧ h.length = 60 ∧ inBody v.toNat b.length = true
/-- What Pack leaves. -/
def PackPost (v : Int) (n h b : Bytes) (w : World) (e : Ending) (w' : World) : Prop :=
  Ext w w' ∧ (packOk v h b → ∃ x, e = .returned (.tuple #[x, .nilIface]) ∧ OB w' w.heap.size x (encB (envF v.toNat n h b))) ∧
    (¬ packOk v h b → ∃ F, e = .returned (.tuple #[.slice none 0 0, .iface 73 (.pointer (some ⟨F, 0, none⟩))]))
theorem envC_at {v : Int} {n : Bytes} {H B : Option Addr} {hl hc bl bc : Nat} {cs : Array Value} (hcs : cs.toList = envC v n H B hl hc bl bc) (hn : n.length = 16) :
    cs[0]? = some (.int .i64 v) ∧ cs[17]? = some (.slice H hl hc) ∧ cs[18]? = some (.slice B bl bc) ∧ ∀ i (h : i < n.length), cs[1 + i]? = some (.int .u8 (n[i].toNat : Int)) := by
  have e : ∀ k, cs[k]? = (envC v n H B hl hc bl bc)[k]? := fun k => by rw [← Array.getElem?_toList, hcs]
  have h16 : (cb n).length = 16 := by rw [cb_length, hn]
  refine ⟨by rw [e]; rfl, ?_, ?_, fun i h => ?_⟩
  · rw [e, envC, show (17 : Nat) = 16 + 1 from rfl, List.getElem?_cons_succ, List.getElem?_append_right (by omega), h16]; rfl
  · rw [e, envC, show (18 : Nat) = 17 + 1 from rfl, List.getElem?_cons_succ, List.getElem?_append_right (by omega), h16]; rfl
  · rw [e, envC, Nat.add_comm, List.getElem?_cons_succ, List.getElem?_append_left (by omega)]
    simp [cb, h]
theorem env_nonce {w : World} {P : Nat} {n : Bytes} {cs : Array Value} {t : TypeId} (h : w.heap[P]? = some (.cells cs t (0, 0))) (hc : ∀ i (h : i < n.length), cs[1 + i]? = some (.int .u8 (n[i].toNat : Int))) : RB w (some ⟨P, 1, none⟩) n := by
  refine .inr ⟨P, 1, rfl, fun i hi => ?_⟩
  rw [cell_of_row w P (1 + i) _ _ _ h]
  exact hc i hi
theorem okFs_of {fs : List Fld} : ∀ {last : Nat}, okGo last fs → ∀ i (h : i < fs.length), wrong fs[i] (if i = 0 then last else (fs[i - 1]?.map (·.no)).getD 0) = 0 ∧ fs[i].num < 18446744073709551616 := by
  induction fs with
  | nil => intro _ _ i h; simp at h
  | cons f r ih =>
    intro last h i hi
    match i with
    | 0 => exact ⟨h.1, h.2.1⟩
    | 1 =>
      have := ih h.2.2 0 (by simpa using hi)
      simpa using this
    | i + 2 =>
      have := ih h.2.2 (i + 1) (Nat.lt_of_succ_lt_succ hi)
      simpa using this
theorem okFs_go {fs : List Fld} (h : okGo 0 fs) : okFs fs := okFs_of h
theorem fieldsOf_eq (xs : List SlP) (ps : List PV) : fieldsOf xs ps = fieldsS (xs.map (·.1)) ps := by
  unfold fieldsOf fieldsS
  rw [List.zipWith_map_left]
theorem okParts_of {xs : List SlP} {ps : List PV} {ss : List Sl} (hx : xs.map (·.1) = ss) (hl : ps.length = ss.length) (h : ∀ i (h1 : i < ss.length) (h2 : i < ps.length), (ss[i].kind = 1 ∨ ss[i].kind = 2 ∨ ss[i].kind = 4 ∨ ss[i].kind = 5) ∧ okPart ss[i] ps[i].num ps[i].data.length ∧ ps[i].data.length ≤ 4194304 ∧ ps[i].num < 18446744073709551616) : OkParts xs ps := by
  subst hx
  refine ⟨by simpa using hl, fun i h1 h2 => ?_⟩
  have := h i (by simpa using h1) h2
  simpa using this
theorem env_okParts {xs : List SlP} {v : Nat} {n h b : Bytes} (hx : xs.map (·.1) = envS v) (hv : v = 1 ∨ v = 2) (hn : n.length = 16) (hh : h.length = 60) (hb : inBody v b.length = true) : OkParts xs (envP v n h b) := by
  have hl := inBody_le hb
  have hm := mostB_le v
  refine okParts_of hx rfl (fun i h1 h2 => ?_)
  have hbad := env_bad (v := v) hn hh hb i h1 h2
  match i, h1 with
  | 0, _ => exact ⟨.inl rfl, ⟨hbad, by simp [envS, envP]⟩, by simp [envP], by simp [envP]; omega⟩
  | 1, _ => exact ⟨.inr (.inr (.inr rfl)), ⟨hbad, by simp [envS, envP]⟩, by simp [envP, hn], by simp [envP]⟩
  | 2, _ => exact ⟨.inr (.inr (.inr rfl)), ⟨hbad, by simp [envS, envP]⟩, by simp [envP, hh], by simp [envP]⟩
  | 3, _ => exact ⟨.inr (.inr (.inr rfl)), ⟨hbad, by simp [envS, envP]⟩, by simp [envP]; omega, by simp [envP]⟩
/-- The parts of an envelope, as they are laid. -/
def envL (v : Int) (B : Nat) (H Bd : Option Addr) (hl hc bl bc : Nat) : Array Value := #[.int .u64 v, .slice none 0 0, .slice none 0 0, .int .u64 0, .slice (some ⟨B, 1, none⟩) 16 16, .slice none 0 0, .int .u64 0, .slice H hl hc, .slice none 0 0, .int .u64 0, .slice Bd bl bc, .slice none 0 0]
theorem env_prd {w : World} {P B v hc bc : Nat} {u : Int} (hu : u = v) {n h b : Bytes} {H Bd : Option Addr} {fr : Nat × Nat} (hP : w.heap[P]? = some (.cells (envL u B H Bd h.length hc b.length bc) 78 fr)) (hn : n.length = 16) (h1 : RB w (some ⟨B, 1, none⟩) n) (hB : B < w.heap.size)
    (h2 : RB w H h) (h2' : ∀ a, H = some a → a.block < w.heap.size) (h3 : RB w Bd b) (h3' : ∀ a, Bd = some a → a.block < w.heap.size) : PRd w (some ⟨P, 0, none⟩) (envP v n h b) := by
  have e : ∀ k, w.cell? ⟨P, k, none⟩ = (envL u B H Bd h.length hc b.length bc)[k]? := fun k => blk_cell hP k
  subst hu
  refine .inr ⟨P, 0, rfl, fun i hi => ?_⟩
  match i, hi with
  | 0, _ => exact ⟨none, 0, none, 0, e 0, e 1, e 2, .inl rfl, fun a h => by cases h⟩
  | 1, _ => exact ⟨some ⟨B, 1, none⟩, 16, none, 0, e 3, by show _ = some (Value.slice _ n.length _); rw [hn]; exact e 4, e 5, h1, fun a h => by injection h with h; subst h; exact hB⟩
  | 2, _ => exact ⟨H, hc, none, 0, e 6, e 7, e 8, h2, h2'⟩
  | 3, _ => exact ⟨Bd, bc, none, 0, e 9, e 10, e 11, h3, h3'⟩
set_option maxRecDepth 100000 in
set_option maxHeartbeats 1600000 in
theorem pack_version (v : Int) (n h b : Bytes) (H B : Option Addr) (hc bc : Nat) (cs : Array Value) (hcs : cs.toList = envC v n H B h.length hc b.length bc) (hn : n.length = 16) (w : World) (hv : ¬ (v = 1 ∨ v = 2)) :
    Calls Tryz.prog 29 #[.agg cs] w (PackPost v n h b w) := by
  have HV := Lib.hid hv
  obtain ⟨c0, _⟩ := envC_at hcs hn
  have E0 := eqNil_nil
  clear hv hcs
  go_enter Tryz.func29, Tryz.ntmps29
  go_wp2_with fail
  refine (grows_any _ _).mono ?_
  rintro e w1 ⟨rfl, hx⟩
  rw [growsV_no (by have := HV.out; omega)]
  go_wp2
  go_ret2
  exact ⟨((Ext.refl w).alloc _).trans (hx.alloc _), fun h => absurd h.1 HV.out, fun _ => ⟨_, rfl⟩⟩
set_option maxRecDepth 100000 in
set_option maxHeartbeats 1600000 in
theorem pack_header (v : Int) (n h b : Bytes) (H B : Option Addr) (hc bc : Nat) (cs : Array Value) (hcs : cs.toList = envC v n H B h.length hc b.length bc) (hn : n.length = 16) (w : World) (hv : v = 1 ∨ v = 2) (hh : h.length ≠ 60) :
    Calls Tryz.prog 29 #[.agg cs] w (PackPost v n h b w) := by
  have HH := Lib.hid hh
  obtain ⟨c0, c17, _⟩ := envC_at hcs hn
  obtain ⟨f, hf⟩ := growsV_some hv
  have HF := Lib.hid hf
  have E0 := eqNil_f f
  have hb0 := new_blk w (.cells cs 27 (0, 0))
  have t : ((h.length : Int) != 60) = true := by simp; omega
  clear hv hcs hf hh
  go_enter Tryz.func29, Tryz.ntmps29
  go_wp2_with fail
  refine (grows_any _ _).mono ?_
  rintro e w1 ⟨rfl, hx⟩
  rw [HF.out]
  have d17 : w1.cell? ⟨w.heap.size, 17, none⟩ = some (.slice H h.length hc) := (cell_of_row w1 _ 17 _ _ _ (hx.heap hb0)).trans c17
  go_wp2
  go_ret2
  exact ⟨((Ext.refl w).alloc _).trans (hx.alloc _), fun h => absurd h.2.1 HH.out, fun _ => ⟨_, rfl⟩⟩
theorem isBody_any (v n : Nat) (hv : v = 1 ∨ v = 2) (w : World) (hn : n ≤ 4611686018427387904) : Calls Tryz.prog 40 #[.int .i64 v, .int .i64 n] w fun e w' => e = .returned (.bool (inBody v n)) ∧ Ext w w' := by
  rcases hv with rfl | rfl
  · exact isBody_1 n w hn
  · exact isBody_2 n w hn
set_option maxRecDepth 100000 in
set_option maxHeartbeats 1600000 in
theorem pack_body (v : Nat) (n h b : Bytes) (H B : Option Addr) (hc bc : Nat) (cs : Array Value) (hcs : cs.toList = envC v n H B h.length hc b.length bc) (hn : n.length = 16) (w : World) (hv : v = 1 ∨ v = 2) (hh : h.length = 60) (hbl : b.length ≤ 4611686018427387904) (hb : inBody v b.length = false) :
    Calls Tryz.prog 29 #[.agg cs] w (PackPost v n h b w) := by
  have HV := Lib.hid hv
  have HHH := Lib.hid hh
  have HB := Lib.hid hb
  obtain ⟨c0, c17, c18, _⟩ := envC_at hcs hn
  obtain ⟨f, hf⟩ := growsV_some (v := v) (by omega)
  have HF := Lib.hid hf
  have E0 := eqNil_f f
  have hb0 := new_blk w (.cells cs 27 (0, 0))
  have t : ((h.length : Int) != 60) = false := by simp; omega
  clear hv hcs hf hh hb
  go_enter Tryz.func29, Tryz.ntmps29
  go_wp2_with fail
  refine (grows_any _ _).mono ?_
  rintro e w1 ⟨rfl, hx⟩
  rw [HF.out]
  have d0 : w1.cell? ⟨w.heap.size, 0, none⟩ = some (.int .i64 v) := (cell_of_row w1 _ 0 _ _ _ (hx.heap hb0)).trans c0
  have d17 : w1.cell? ⟨w.heap.size, 17, none⟩ = some (.slice H h.length hc) := (cell_of_row w1 _ 17 _ _ _ (hx.heap hb0)).trans c17
  have d18 : w1.cell? ⟨w.heap.size, 18, none⟩ = some (.slice B b.length bc) := (cell_of_row w1 _ 18 _ _ _ (hx.heap hb0)).trans c18
  go_wp2_with fail
  refine (isBody_any v b.length HV.out _ hbl).mono ?_
  rintro e w2 ⟨rfl, hx2⟩
  rw [HB.out]
  go_wp2
  go_ret2
  exact ⟨((Ext.refl w).alloc _).trans (hx.trans (hx2.alloc _)), (fun h => by have h1 := h.2.2; rw [Int.toNat_natCast, HB.out] at h1; cases h1), fun _ => ⟨_, rfl⟩⟩
set_option maxRecDepth 100000 in
set_option maxHeartbeats 1600000 in
theorem pack_ok (v : Nat) (n h b : Bytes) (H B : Option Addr) (hc bc : Nat) (cs : Array Value) (hcs : cs.toList = envC v n H B h.length hc b.length bc) (hn : n.length = 16) (w : World) (hv : v = 1 ∨ v = 2) (hh : h.length = 60) (hbl : b.length ≤ 4611686018427387904) (hb : inBody v b.length = true)
    (hrh : RB w H h) (hrh' : ∀ a, H = some a → a.block < w.heap.size) (hrb : RB w B b) (hrb' : ∀ a, B = some a → a.block < w.heap.size) :
    Calls Tryz.prog 29 #[.agg cs] w (PackPost v n h b w) := by
  have HV := Lib.hid hv
  have HHH := Lib.hid hh
  have HB := Lib.hid hb
  have HN := Lib.hid hn
  obtain ⟨c0, c17, c18, c1⟩ := envC_at hcs hn
  have HC1 := Lib.hid c1
  obtain ⟨f, hf⟩ := growsV_some (v := v) (by omega)
  have HF := Lib.hid hf
  have E0 := eqNil_f f
  have hb0 := new_blk w (.cells cs 27 (0, 0))
  have HB0 := Lib.hid hb0
  have t : ((h.length : Int) != 60) = false := by simp; omega
  clear hv hcs hf hh hb c1 hn
  go_enter Tryz.func29, Tryz.ntmps29
  go_wp2_with fail
  refine (grows_any _ _).mono ?_
  rintro e w1 ⟨rfl, hx⟩
  rw [HF.out]
  have d0 : w1.cell? ⟨w.heap.size, 0, none⟩ = some (.int .i64 v) := (cell_of_row w1 _ 0 _ _ _ (hx.heap hb0)).trans c0
  have d17 : w1.cell? ⟨w.heap.size, 17, none⟩ = some (.slice H h.length hc) := (cell_of_row w1 _ 17 _ _ _ (hx.heap hb0)).trans c17
  have d18 : w1.cell? ⟨w.heap.size, 18, none⟩ = some (.slice B b.length bc) := (cell_of_row w1 _ 18 _ _ _ (hx.heap hb0)).trans c18
  go_wp2_with fail
  refine (isBody_any v b.length HV.out _ hbl).mono ?_
  rintro e w2 ⟨rfl, hx2⟩
  rw [HB.out]
  have X2 := ((Ext.refl w).alloc (.cells cs 27 (0, 0))).trans (hx.trans hx2)
  have HB2 := Lib.hid ((hx.trans hx2).heap HB0.out)
  have g0 := hx2.cell d0
  have g17 := hx2.cell d17
  have g18 := hx2.cell d18
  clear d0 d17 d18 c0 c17 c18 hb0
  have hv2 : v ≤ 2 := by have := HV.out; omega
  have hwl : w.heap.size < w2.heap.size := lt_of_cell g0
  have hsz := X2.size
  have HU : Hid (IntKind.u64.wrap (v : Int) = (v : Int)) := Lib.hid (by rw [IntKind.wrap_u64]; omega)
  have HPR := Lib.hid (fun (W : World) (P : Nat) (hW : Ext w2 W) (hP : W.heap[P]? = some (.cells (envL (IntKind.u64.wrap (v : Int)) w.heap.size H B h.length hc b.length bc) 78 (0, 0))) =>
    env_prd HU.out hP HN.out (env_nonce (hW.heap HB2.out) HC1.out) (by have := hW.size; omega) (hrh.ext (X2.trans hW)) (fun a e => by have := hrh' a e; have := hW.size; omega) (hrb.ext (X2.trans hW)) (fun a e => by have := hrb' a e; have := hW.size; omega))
  have HFE := Lib.hid (fun (xs : List SlP) (hx : xs.map (·.1) = envS v) => (by rw [fieldsOf_eq, hx]; rfl : fieldsOf xs (envP v n h b) = envF v n h b))
  have HOK := Lib.hid (fun (xs : List SlP) (hx : xs.map (·.1) = envS v) => env_okParts hx HV.out HN.out HHH.out HB.out)
  have HFS : Hid (okFs (envF v n h b)) := Lib.hid (okFs_go (env_okGo n h b (show v < 18446744073709551616 by omega)))
  have HLE := Lib.hid (env_fits HV.out HN.out HHH.out HB.out)
  have n0 := World.new_ne w2 _ g0
  simp only at n0
  clear hrh hrh' hrb hrb' hx hx2
  go_wp2_with fail
  go_region_held3 (fun w' => w'.cell? ⟨w.heap.size, 0, none⟩ = some (.int .i64 v) ∧ w'.cell? ⟨w.heap.size, 17, none⟩ = some (.slice H h.length hc) ∧ w'.cell? ⟨w.heap.size, 18, none⟩ = some (.slice B b.length bc))
    (go_keep)
    (first
      | (go_at_call 37; refine (envelopes_any v HV.out w2.drew).mono ?_; rintro e w5 ⟨C, xs, rfl, hcd, hxs, hx5, hC⟩; have hy5 := Ext.trans (Ext.drew (Ext.refl w2)) hx5; have m0 := hy5.cell g0; have m17 := hy5.cell g17; have m18 := hy5.cell g18; have n5 := World.new_ne w5 _ m0; simp only at n5; have HXS := Lib.hid hxs; clear hxs; have HCD := Lib.hid (hcd.ext ((Ext.refl _).alloc (.cells (envL (IntKind.u64.wrap (v : Int)) w.heap.size H B h.length hc b.length bc) 78 (0, 0)))); clear hcd; have HW5 := Lib.hid (hy5.alloc (.cells (envL (IntKind.u64.wrap (v : Int)) w.heap.size H B h.length hc b.length bc) 78 (0, 0))); have HPP := Lib.hid (new_blk w5 (.cells (envL (IntKind.u64.wrap (v : Int)) w.heap.size H B h.length hc b.length bc) 78 (0, 0))))
      | (go_at_call 37; refine (envelopes_any v HV.out (w2.alloc (.cells (envL (IntKind.u64.wrap (v : Int)) w.heap.size H B h.length hc b.length bc) 78 (0, 0))).drew).mono ?_; rintro e w5 ⟨C, xs, rfl, hcd, hxs, hx5, hC⟩; have hy5 := Ext.trans (Ext.drew (Ext.alloc (Ext.refl w2) _)) hx5; have m0 := hy5.cell g0; have m17 := hy5.cell g17; have m18 := hy5.cell g18; have n5 := World.new_ne w5 _ m0; simp only at n5; have HXS := Lib.hid hxs; clear hxs; have HCD := Lib.hid hcd; clear hcd; have HW5 := Lib.hid hy5; have HPP := Lib.hid (hx5.heap (new_blk w2 (.cells (envL (IntKind.u64.wrap (v : Int)) w.heap.size H B h.length hc b.length bc) 78 (0, 0)))))
      | (go_at_call 47; refine (codec_Encode C C xs none (some ⟨_, 0, none⟩) 0 4 (envP v n h b) _ HCD.out (HPR.out _ _ HW5.out HPP.out) (HOK.out xs HXS.out) (by have := congrArg List.length HXS.out; simp [envS] at this; omega) (by have := congrArg List.length HXS.out; simp [envS] at this; omega) (by rw [HFE.out xs HXS.out]; exact HFS.out) (by rw [HFE.out xs HXS.out]; exact HLE.out)).mono ?_; rintro e w6 ⟨x, rfl, ho, hx6⟩; rw [HFE.out xs HXS.out] at ho; have hy6 := Ext.trans HW5.out hx6; have r0 := hy6.cell g0; have r17 := hy6.cell g17; have r18 := hy6.cell g18))
  all_goals
    go_wp2
    go_ret2
    have X6 := X2.trans (HW5.out.trans hx6)
    refine ⟨X6, fun _ => ⟨x, rfl, ?_⟩, fun h => absurd ⟨by have := HV.out; omega, HHH.out, by rw [Int.toNat_natCast]; exact HB.out⟩ h⟩
    rw [Int.toNat_natCast]
    exact ho.base (X2.trans HW5.out).size
theorem pack_any (v : Int) (n h b : Bytes) (H B : Option Addr) (hc bc : Nat) (cs : Array Value) (hcs : cs.toList = envC v n H B h.length hc b.length bc) (hn : n.length = 16) (w : World) (hbl : b.length ≤ 4611686018427387904)
    (hrh : RB w H h) (hrh' : ∀ a, H = some a → a.block < w.heap.size) (hrb : RB w B b) (hrb' : ∀ a, B = some a → a.block < w.heap.size) :
    Calls Tryz.prog 29 #[.agg cs] w (PackPost v n h b w) := by
  by_cases hv : v = 1 ∨ v = 2
  · obtain ⟨m, rfl⟩ : ∃ m : Nat, v = m := ⟨v.toNat, by omega⟩
    by_cases hh : h.length = 60
    · cases hb : inBody m b.length with
      | true => exact pack_ok m n h b H B hc bc cs hcs hn w (by omega) hh hbl hb hrh hrh' hrb hrb'
      | false => exact pack_body m n h b H B hc bc cs hcs hn w (by omega) hh hbl hb
    · exact pack_header m n h b H B hc bc cs hcs hn w hv hh
  · exact pack_version v n h b H B hc bc cs hcs hn w hv
end Go.Proofs.YtehfoddnlecmjaaGreatDoor
