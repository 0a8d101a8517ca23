/- What every law of envelope calls first: lives. -/
import Derived.Test.YtehfoddnlecmjaaGreatDoorEnv9
import Derived.Test.YtehfoddnlecmjaaGreatDoorPureBuck
import Derived.Lib.SlBytesConst
set_option linter.unusedVariables false
set_option linter.unusedSimpArgs false
namespace Go.Proofs.YtehfoddnlecmjaaGreatDoor
open Go.RowKit

theorem make_own (n : Nat) (hn : n ≤ 281474976710656) (w : World) : ∃ w', (Instr.makeSlice 22 (.int .i64 n) (.int .i64 n)).run Tryz.prog w = .ok (.slice (some ⟨w.heap.size, 0, none⟩) n n) w' ∧ OB w' w.heap.size (.slice (some ⟨w.heap.size, 0, none⟩) n n) (List.replicate n 0) ∧ Ext w w' ∧ w.heap.size < w'.heap.size := by
  obtain ⟨ii, hi, hz0, hz1, hz2⟩ := info_parts u8_info'
  obtain ⟨w', hr, ho, hg⟩ := run_make_full (P := Tryz.prog) w w.heap.size 22 5 ii (.int .u8 0) 1 Tryz.underlying22 hi hz0 hz1 .i64 .i64 n (by rw [hz2]; omega) (by rw [maxLen]; omega) (Nat.le_refl _)
  rw [cb_zero] at ho
  have ho' : OB w' w.heap.size (.slice (some ⟨w.heap.size, 0, none⟩) n n) (List.replicate n 0) := by
    unfold OB
    rw [List.length_replicate]
    exact ho
  exact ⟨w', hr, ho', Ext.of_grown hg, (ho'.lt _ rfl)⟩
theorem wp_make {op : Oper} {a : Act} {w : World} {K : Act → World → Prop} {Q : Exit → Act → World → Prop} {l c : Operand} (n : Nat) (hn : n ≤ 281474976710656) (hop : op.op = .makeSlice 22 l c) (hl : a.eval l = .int .i64 n) (hc : a.eval c = .int .i64 n)
    (h : ∀ w' g, OB w' w.heap.size (.slice (some ⟨g, 0, none⟩) n n) (List.replicate n 0) → Ext w w' → K (a.put op.dst (.slice (some ⟨g, 0, none⟩) n n)) w') : op.wp Tryz.prog a w K Q := by
  obtain ⟨w', hr, ho, hx, _⟩ := make_own n hn w
  unfold Oper.wp execOp
  simp only [hop, hl, hc, hr, Sem.run_bind, Sem.run_pure, Result.andThen_ok]
  exact h w' w.heap.size ho hx
def opM60 : Oper := { dst := some 23, op := Op.makeSlice 22 (Operand.const (Value.int IntKind.i64 60)) (Operand.const (Value.int IntKind.i64 60)), type := 22, pos := "outright.go:17", after := #[], guard := none }
theorem opM60_eq : opM60 = { dst := some 23, op := Op.makeSlice 22 (Operand.const (Value.int IntKind.i64 60)) (Operand.const (Value.int IntKind.i64 60)), type := 22, pos := "outright.go:17", after := #[], guard := none } := rfl
@[go_sem] theorem opM60_guard : opM60.guard = none := rfl
@[go_sem] theorem opM60_dst : opM60.dst = some 23 := rfl
def WpM60 (a : Act) (w : World) (K : Act → World → Prop) (Q : Exit → Act → World → Prop) : Prop := Oper.wp Tryz.prog opM60 a w K Q
theorem wpM60_eq (a : Act) (w : World) (K : Act → World → Prop) (Q : Exit → Act → World → Prop) : Oper.wp Tryz.prog opM60 a w K Q = WpM60 a w K Q := rfl
def opM80 : Oper := { dst := some 24, op := Op.makeSlice 22 (Operand.const (Value.int IntKind.i64 80)) (Operand.const (Value.int IntKind.i64 80)), type := 22, pos := "outright.go:17", after := #[], guard := none }
theorem opM80_eq : opM80 = { dst := some 24, op := Op.makeSlice 22 (Operand.const (Value.int IntKind.i64 80)) (Operand.const (Value.int IntKind.i64 80)), type := 22, pos := "outright.go:17", after := #[], guard := none } := rfl
@[go_sem] theorem opM80_guard : opM80.guard = none := rfl
@[go_sem] theorem opM80_dst : opM80.dst = some 24 := rfl
def WpM80 (a : Act) (w : World) (K : Act → World → Prop) (Q : Exit → Act → World → Prop) : Prop := Oper.wp Tryz.prog opM80 a w K Q
theorem wpM80_eq (a : Act) (w : World) (K : Act → World → Prop) (Q : Exit → Act → World → Prop) : Oper.wp Tryz.prog opM80 a w K Q = WpM80 a w K Q := rfl
set_option maxRecDepth 100000 in
theorem wpM60 {a : Act} {w : World} {K : Act → World → Prop} {Q : Exit → Act → World → Prop} (h : ∀ w' g, OB w' w.heap.size (.slice (some ⟨g, 0, none⟩) 60 60) (List.replicate 60 0) → Ext w w' → K (a.put (some 23) (.slice (some ⟨g, 0, none⟩) 60 60)) w') : WpM60 a w K Q :=
  wp_make (op := opM60) (l := .const (.int .i64 60)) (c := .const (.int .i64 60)) 60 (by omega) rfl rfl rfl h
set_option maxRecDepth 100000 in
theorem wpM80 {a : Act} {w : World} {K : Act → World → Prop} {Q : Exit → Act → World → Prop} (h : ∀ w' g, OB w' w.heap.size (.slice (some ⟨g, 0, none⟩) 80 80) (List.replicate 80 0) → Ext w w' → K (a.put (some 24) (.slice (some ⟨g, 0, none⟩) 80 80)) w') : WpM80 a w K Q :=
  wp_make (op := opM80) (l := .const (.int .i64 80)) (c := .const (.int .i64 80)) 80 (by omega) rfl rfl rfl h
attribute [local go_sem ↓] wpM60_eq wpM80_eq
theorem OB.rd {w : World} {base g n : Nat} {l : Bytes} (h : OB w base (.slice (some ⟨g, 0, none⟩) n n) l) : RB w (some ⟨g, 0, none⟩) l ∧ g < w.heap.size := by
  obtain ⟨A, c, e, _, _, hr, _⟩ := h.reads
  injection e with e1 e2 e3
  subst e1
  exact ⟨hr, h.lt g rfl⟩
def hiB : Bytes := [104, 105]
theorem hi_bkt : bkt 1 2 = (64, 0) := by
  unfold bkt
  rw [if_pos (.inl rfl), if_neg (by decide), if_neg (by decide)]
  have e : bucket (Int.toNat 1) (Int.toNat 2) = 64 := bucket_small (by decide)
  rw [e]
  rfl
theorem in_80 : inBody 1 80 = true := by
  have hm := mostB_le 1
  unfold inBody
  rw [show min (80 - 16) (mostB 1) = 64 by omega, bkGo_stop (by decide)]
  rfl
theorem env80 : (encB (envF 1 (List.replicate 16 0) (List.replicate 60 0) (List.replicate 80 0))).length = 164 := by
  rw [env_len (.inl rfl) (by simp) (by simp)]
  rw [show vsize (List.replicate 80 (0 : UInt8)).length = 1 from by rw [List.length_replicate]; exact vsize_lt (by decide)]
  rfl
/-- An envelope stored into a new variable, all cells at once. -/
theorem wpList_store_env {ops : Array Oper} {rest : List Oper} {op : Oper} {a : Act} {w0 : World} {Q : Exit → Act → World → Prop} (hgd : op.guard = none) (x y : Operand) (ho : op.op = .store 27 x y) (cs : Array Value)
    (hx : a.eval x = .pointer (some ⟨w0.heap.size, 0, none⟩)) (hy : a.eval y = .agg cs) (hs : cs.size = 19) (h1 : ∀ u ∈ cs.toList, u.oneCell' = true)
    (h : ∀ w', Ext w0 w' → Hid (w'.rangeAt w0.heap.size 0 cs.toList) → wpList Tryz.prog ops Q rest (a.put op.dst undef) w') : wpList Tryz.prog ops Q (op :: rest) a (w0.alloc (.cells zEnv 27 (0, 0))) := by
  have hb := new_blk w0 (.cells zEnv 27 (0, 0))
  have hth : (w0.alloc (.cells zEnv 27 (0, 0))).there w0.heap.size 0 cs.size := by rw [hs]; exact blk_there (cs := zEnv) hb
  refine wpList_store_mid hgd 27 x y ho w0.heap.size 0 cs hx hy hth (by rw [hs]; kernel_rfl) (by simpa using all_oneCell_toArray h1) (h _ ?_ (Lib.hid (World.rangeAt_setCells_same _ _ _ _ (by simpa using hth))))
  have g := gr_setCells w0.heap.size cs.toList 0 (w0.alloc (.cells zEnv 27 (0, 0)))
  exact g.below ((Ext.refl w0).alloc _) (by simp) (fun k hk => by omega)
/-- The envelope that lives packs. -/
def packL : Bytes := encB (envF 1 (List.replicate 16 0) (List.replicate 60 0) (List.replicate 80 0))
theorem packL_len : packL.length = 164 := env80
/-- An ending of lives. -/
def LvPost (w : World) (e : Ending) (w' : World) : Prop := e = .returned (.bool true) ∧ Ext w w'
set_option maxRecDepth 100000 in
set_option maxHeartbeats 3200000 in
theorem lives_any (w : World) : Calls Tryz.prog 22 #[] w (LvPost w) := by
  have hb0 := new_blk w (.cells #[.int .u8 104, .int .u8 105] 5 (2, 3))
  have hcv : (convert 22 22 (.slice (some ⟨w.heap.size, 0, none⟩) 2 2)).run Tryz.prog (w.alloc (.cells #[.int .u8 104, .int .u8 105] 5)) = .ok (.slice (some ⟨w.heap.size, 0, none⟩) 2 2) (w.alloc (.cells #[.int .u8 104, .int .u8 105] 5 (2, 3))) :=
    Go.Lib.run_convert_bytes_const w 22 5 #[.int .u8 104, .int .u8 105] 2 2 Tryz.underlying22 Tryz.underlying5
  have hr0 : RB (w.alloc (.cells #[.int .u8 104, .int .u8 105] 5 (2, 3))) (some ⟨w.heap.size, 0, none⟩) hiB := by
    refine .inr ⟨w.heap.size, 0, rfl, fun i hi => ?_⟩
    rw [cell_of_row _ _ _ _ _ _ hb0]
    match i, hi with
    | 0, _ => rfl
    | 1, _ => rfl
  have X0 : Ext w (w.alloc (.cells #[.int .u8 104, .int .u8 105] 5 (2, 3))) := (Ext.refl _).alloc _
  have HP := Lib.hid (pad_any 1 (some ⟨w.heap.size, 0, none⟩) 2 hiB _ hr0)
  have hpl : (padB 1 hiB).length = 64 := by rw [padB_length]; exact bucket_small (by decide)
  have hun : unpadR 1 (padB 1 hiB) = some hiB := unpad_pad 1 hiB (by decide)
  have HPL := Lib.hid hpl
  have HUN := Lib.hid hun
  have hpk := packL_len
  have HPS := Lib.hid (fun A c W hr hA hlc hcm => parse_ok 1 (List.replicate 16 0) (List.replicate 60 0) (List.replicate 80 0) packL A c W (.inl rfl) (by simp) (by simp) (by rw [List.length_replicate]; exact in_80) rfl hr hA hlc hcm)
  have HPK := Lib.hid hpk
  clear hb0 hr0 hpl hun hpk
  go_enter Tryz.func22, Tryz.ntmps22
  go_wp2_with fail
  refine HP.out.mono ?_
  rintro e w1 ⟨hx1, -, hok⟩
  obtain ⟨x, rfl, hob⟩ := hok (by show (bkt 1 2).2 = 0; rw [hi_bkt])
  have hob1 : OB w1 _ x (padB 1 hiB) := hob
  clear hok hob hcv
  generalize padB 1 hiB = pb at *
  obtain ⟨A1, c1, rfl, hc1, hc1', hr1, _⟩ := hob1.reads
  have HR1 := Lib.hid hr1
  have hA1 : ∀ a, A1 = some a → a.block < w1.heap.size := fun a e => hob1.lt _ (by subst e; rfl)
  have HA1 := Lib.hid hA1
  have t64 : ((pb.length : Int) != 64) = false := by simp; have := HPL.out; omega
  have X1 := X0.trans hx1
  clear hob1 hr1 hx1 X0 hA1
  go_wp2_with fail
  rw [← opM60_eq, ← opM80_eq]
  go_region_held3 (fun w' => Ext w1 w') (first | exact Ext.drew (Ext.refl _) | exact hxp2 | exact hxn | assumption)
    (first
      | (refine wpM60 ?_; intro wa ga ha hxa; have hxa2 : Ext w1 wa := (by first | exact Ext.trans (Ext.drew (Ext.refl _)) hxa | exact Ext.trans hxb2 hxa); have HA := Lib.hid ha; have HXA := Lib.hid hxa; clear ha hxa)
      | (refine wpM80 ?_; intro wb gb hb hxb; have hxb2 : Ext w1 wb := (by first | exact Ext.trans (Ext.drew (Ext.refl _)) hxb | exact Ext.trans hxa2 hxb); have HB := Lib.hid hb; have HXB := Lib.hid hxb; clear hb hxb)
      | (go_at_call 29; go_must (refine (pack_any 1 (List.replicate 16 0) (List.replicate 60 0) (List.replicate 80 0) (some ⟨ga, 0, none⟩) (some ⟨gb, 0, none⟩) 60 80 _ (by rfl) (by rfl) _ (by simp) (by first | exact (HA.out.ext HXB.out).rd.1 | exact HA.out.rd.1) (fun a e => by injection e with e; subst e; first | exact (HA.out.ext HXB.out).rd.2 | exact HA.out.rd.2) (by first | exact (HB.out.ext HXA.out).rd.1 | exact HB.out.rd.1) (fun a e => by injection e with e; subst e; first | exact (HB.out.ext HXA.out).rd.2 | exact HB.out.rd.2)).mono ?_); rintro e wp ⟨hxp, hokp, -⟩; obtain ⟨xp, rfl, hobp⟩ := hokp ⟨.inl rfl, by simp, by rw [List.length_replicate]; exact in_80⟩; have hxp2 : Ext w1 wp := (by first | exact Ext.trans hxb2 hxp | exact Ext.trans hxa2 hxp); have hobq : OB wp _ xp packL := hobp; obtain ⟨A2, c2, rfl, hc2, hc2', hr2, _⟩ := hobq.reads; have HA2 := Lib.hid (show ∀ a : Addr, A2 = some a → a.block < wp.heap.size from fun a e => hobq.lt _ (by subst e; rfl)); have HR2 := Lib.hid hr2; clear hokp hobp hobq hr2))
  all_goals
    have t164 : ((packL.length : Int) == 164) = true := by simp; have := HPK.out; omega
    have hl164 : packL.length ≤ c2 := hc2
    go_wp2_with fail
    refine (HPS.out A2 c2 wp HR2.out HA2.out hc2 hc2').mono ?_
    rintro e w8 ⟨hx8, cs, H8, B8, hc8, bc8, rfl, hcs8, ho1, ho2, -⟩
    have X8 := X1.trans (hxp2.trans hx8)
    have HR8 := Lib.hid (HR1.out.ext (hxp2.trans hx8))
    obtain ⟨_, _, q18, _⟩ := envC_at hcs8 (by simp)
    rw [List.length_replicate] at q18
    have hone8 : ∀ u ∈ cs.toList, u.oneCell' = true := by rw [hcs8]; exact one_env _ _ _ _ _ _ _ _
    have hs8 : cs.size = 19 := by rw [← Array.length_toList, hcs8]; rfl
    have Q18 := Lib.hid q18
    clear ho1 ho2 hcs8 q18
    go_wp2_with (with_reducible show wpList _ _ _ _ _ _; (refine wpList_store_env (w0 := w8) (op := ⟨none, .store 27 (.tmp 5) (.tmp 32), _, _, _, _⟩) (by rfl) (.tmp 5) (.tmp 32) (by rfl) cs (by first | exact rfl | simp [Act.eval]) (by first | exact rfl | simp [Act.eval]) hs8 hone8 ?_); intro w9 hx9 hrg9)
    have c18 : w9.cell? ⟨w8.heap.size, 18, none⟩ = some (.slice B8 80 bc8) := by
      have h := hrg9.out 18 (.slice B8 80 bc8) (by rw [Array.getElem?_toList]; exact Q18.out)
      simpa using h
    refine (unpad_any 1 A1 c1 pb w9 (HR8.out.ext hx9) hc1 hc1' (by have := HPL.out; omega)).mono ?_
    rintro e w10 ⟨hx10, -, -, hun⟩
    obtain ⟨xq, rfl, hobq⟩ := hun hiB (.inl rfl) HUN.out
    obtain ⟨A4, c4, rfl, hc4, _, hr4, _⟩ := hobq.reads
    have k18 := hx10.cell c18
    have q4 : (convert 22 9 (.slice A4 hiB.length c4)).run Tryz.prog w10 = .ok (.string ⟨#[104, 105]⟩) w10 := conv_bytes c4 hr4
    have X10 := Lib.hid ((X8.trans hx9).trans hx10)
    clear hun hobq hr4 c18 hrg9
    go_wp2
    go_ret
    exact ⟨rfl, X10.out⟩
end Go.Proofs.YtehfoddnlecmjaaGreatDoor
