/- The contracts of package envelope: Parse, where it takes. -/
import Derived.Test.YtehfoddnlecmjaaGreatDoorEnv7
import Derived.Deep.RegionHeld3
import Derived.Deep.MidRow
set_option linter.unusedVariables false
set_option linter.unusedSimpArgs false
namespace Go.Proofs.YtehfoddnlecmjaaGreatDoor
open Go.RowKit

set_option maxRecDepth 100000 in
set_option maxHeartbeats 800000 in
theorem versionOf_ok (g o n c num : Nat) (en : Int) (w : World) (h0 : w.cell? ⟨g, o, none⟩ = some (.int .i64 1)) (h1 : w.cell? ⟨g, o + 1, none⟩ = some (.int .i64 0)) (h2 : w.cell? ⟨g, o + 2, none⟩ = some (.int .u64 num)) (hn : 1 ≤ n) (hnum : num = 1 ∨ num = 2) :
    Calls Tryz.prog 36 #[.slice (some ⟨g, o, none⟩) n c, .int .i64 en] w fun e w' => e = .returned (.tuple #[.int .i64 num, .nilIface]) ∧ Ext w w' := by
  obtain ⟨f, hf⟩ := growsV_some (v := num) (by omega)
  have HF := Lib.hid hf
  have E0 := eqNil_f f
  have hle : num ≤ 2 := by omega
  have HU : Hid (wrap64 (num : Int) = (num : Int)) := Lib.hid (by unfold wrap64; omega)
  clear hf hnum
  go_enter Tryz.func36, Tryz.ntmps36
  go_wp2_with fail
  refine (grows_any _ _).mono ?_
  rintro e w1 ⟨rfl, hx⟩
  have k2 := hx.cell h2
  rw [HF.out]
  go_wp2
  go_ret2
  exact ⟨rfl, hx⟩
theorem flat3' (f : (PV × Value) → List Value) (hf : ∀ x, (f x).length = 3) : ∀ (xs : List (PV × Value)) (i k : Nat) (h : i < xs.length), k < 3 → (xs.flatMap f)[i * 3 + k]? = (f xs[i])[k]?
  | [], i, k, h, _ => by simp at h
  | x :: xs, 0, k, h, hk => by
    simp only [List.flatMap_cons, Nat.zero_mul, Nat.zero_add, List.getElem_cons_zero]
    rw [List.getElem?_append_left (by rw [hf]; exact hk)]
  | x :: xs, i + 1, k, h, hk => by
    simp only [List.flatMap_cons, List.getElem_cons_succ]
    rw [List.getElem?_append_right (by rw [hf]; omega), hf, show (i + 1) * 3 + k - 3 = i * 3 + k by omega]
    exact flat3' f hf xs i k (by simpa using h) hk
theorem ov_reads {w : World} {base : Nat} {v : Value} {zs : List (PV × Value)} (h : OV w base v zs) (h0 : 1 ≤ zs.length) : ∃ g c, v = .slice (some ⟨g, 0, none⟩) zs.length c ∧ base ≤ g ∧ g < w.heap.size ∧
    ∀ i (h : i < zs.length) k, k < 3 → w.cell? ⟨g, i * 3 + k, none⟩ = (pcells zs[i].1 zs[i].2)[k]? := by
  rcases h.1.2 with ⟨_, h1⟩ | ⟨g, cap, cur, rfl, hg, hh, hnc, hc, hs, hx⟩
  · omega
  · refine ⟨g, cap, rfl, hg, lt_of_heap hh, fun i hi k hk => ?_⟩
    rw [cell_of_row w g (i * 3 + k) cur 78 (0, 0) hh]
    have h3 := flat3' (fun x => pcells x.1 x.2) (fun x => rfl) zs i k hi hk
    rw [← hx, List.getElem?_take, if_pos (by omega)] at h3
    simpa using h3
abbrev zEnv : Array Value := #[.int .i64 0, .int .u8 0, .int .u8 0, .int .u8 0, .int .u8 0, .int .u8 0, .int .u8 0, .int .u8 0, .int .u8 0, .int .u8 0, .int .u8 0, .int .u8 0, .int .u8 0, .int .u8 0, .int .u8 0, .int .u8 0, .int .u8 0, .slice none 0 0, .slice none 0 0]
theorem len16 {α : Type} : ∀ {n : List α}, n.length = 16 → ∃ a0 a1 a2 a3 a4 a5 a6 a7 a8 a9 a10 a11 a12 a13 a14 a15, n = [a0, a1, a2, a3, a4, a5, a6, a7, a8, a9, a10, a11, a12, a13, a14, a15]
  | [a0, a1, a2, a3, a4, a5, a6, a7, a8, a9, a10, a11, a12, a13, a14, a15], _ => ⟨_, _, _, _, _, _, _, _, _, _, _, _, _, _, _, _, rfl⟩
theorem rb_range {w : World} {g o : Nat} {l : Bytes} (h : ∀ j (h : j < l.length), w.cell? ⟨g, o + j, none⟩ = some (.int .u8 (l[j].toNat : Int))) : w.rangeAt g o (cb l) := by
  intro j v hj
  have hjl : j < l.length := by
    rcases Nat.lt_or_ge j l.length with h | h
    · exact h
    · rw [List.getElem?_eq_none (by rw [cb_length]; exact h)] at hj; cases hj
  have e : (cb l)[j]? = some (.int .u8 (l[j].toNat : Int)) := by simp [cb, hjl]
  rw [e] at hj
  injection hj with hj
  subst hj
  exact h j hjl
theorem blk_there {w : World} {g : Nat} {cs : Array Value} {t : TypeId} (h : w.heap[g]? = some (.cells cs t (0, 0))) : w.there g 0 cs.size := by
  intro j hj
  refine ⟨?_, blk_frozen h _⟩
  rw [cell_of_row w g _ _ _ _ h]
  simp [hj]
theorem array_at (g o c : Nat) (w : World) : (Instr.arrayAt 25 (.slice (some ⟨g, o, none⟩) 16 c)).run Tryz.prog w = .ok (.pointer (some ⟨g, o, none⟩)) w := by kernel_rfl
/-- What Parse leaves where it takes. -/
def ParseOk (v : Nat) (n h b : Bytes) (w : World) (e : Ending) (w' : World) : Prop :=
  Ext w w' ∧ ∃ cs H B hc bc, e = .returned (.tuple #[.agg cs, .nilIface]) ∧ cs.toList = envC v n H B h.length hc b.length bc ∧ OB w' w.heap.size (.slice H h.length hc) h ∧ OB w' w.heap.size (.slice B b.length bc) b ∧ apartV (.slice H h.length hc) (.slice B b.length bc)
theorem map4 {zs : List (PV × Value)} {a b c d : PV} (h : zs.map (·.1) = [a, b, c, d]) : ∃ x0 x1 x2 x3, zs = [(a, x0), (b, x1), (c, x2), (d, x3)] := by
  match zs, h with
  | [(_, x0), (_, x1), (_, x2), (_, x3)], h =>
    simp at h
    obtain ⟨rfl, rfl, rfl, rfl⟩ := h
    exact ⟨x0, x1, x2, x3, rfl⟩
theorem gr_setCells (g : Nat) : ∀ (vs : List Value) (o : Nat) (w : World), Gr (fun k => k = g) w (w.setCells g o vs)
  | [], _, w => Gr.refl _ w
  | v :: r, o, w => by
    rw [World.setCells]
    exact (Gr.of_grown (grown_store w g o v) (fun k hk => by injection hk with hk; exact hk.symm)).trans (gr_setCells g r (o + 1) _)
theorem one_env (v : Int) (n : Bytes) (H B : Option Addr) (hl hc bl bc : Nat) : ∀ u ∈ envC v n H B hl hc bl bc, u.oneCell' = true := by
  intro u hu
  unfold envC at hu
  rcases List.mem_cons.1 hu with rfl | hu
  · rfl
  · rcases List.mem_append.1 hu with hu | hu
    · exact cb_one n u hu
    · simp at hu
      rcases hu with rfl | rfl <;> rfl
def opST : Oper := { dst := none, op := Op.store 27 (Operand.tmp 2) (Operand.tmp 80), type := 0, pos := "envelope.go:178", after := #[{ on := 18, ground := Ground.data }, { on := 0, ground := Ground.phase }, { on := 1, ground := Ground.phase }, { on := 2, ground := Ground.phase }, { on := 3, ground := Ground.phase }, { on := 4, ground := Ground.phase }, { on := 5, ground := Ground.phase }, { on := 6, ground := Ground.phase }, { on := 7, ground := Ground.phase }, { on := 8, ground := Ground.phase }, { on := 9, ground := Ground.phase }, { on := 10, ground := Ground.phase }, { on := 11, ground := Ground.phase }, { on := 12, ground := Ground.phase }, { on := 13, ground := Ground.phase }, { on := 14, ground := Ground.phase }, { on := 15, ground := Ground.phase }, { on := 16, ground := Ground.phase }, { on := 17, ground := Ground.phase }, { on := 18, ground := Ground.phase }], guard := none }
theorem opST_eq : opST = { dst := none, op := Op.store 27 (Operand.tmp 2) (Operand.tmp 80), type := 0, pos := "envelope.go:178", after := #[{ on := 18, ground := Ground.data }, { on := 0, ground := Ground.phase }, { on := 1, ground := Ground.phase }, { on := 2, ground := Ground.phase }, { on := 3, ground := Ground.phase }, { on := 4, ground := Ground.phase }, { on := 5, ground := Ground.phase }, { on := 6, ground := Ground.phase }, { on := 7, ground := Ground.phase }, { on := 8, ground := Ground.phase }, { on := 9, ground := Ground.phase }, { on := 10, ground := Ground.phase }, { on := 11, ground := Ground.phase }, { on := 12, ground := Ground.phase }, { on := 13, ground := Ground.phase }, { on := 14, ground := Ground.phase }, { on := 15, ground := Ground.phase }, { on := 16, ground := Ground.phase }, { on := 17, ground := Ground.phase }, { on := 18, ground := Ground.phase }], guard := none } := rfl
@[go_sem] theorem opST_guard : opST.guard = none := rfl
@[go_sem] theorem opST_dst : opST.dst = none := rfl
def WpST (a : Act) (w : World) (K : Act → World → Prop) (Q : Exit → Act → World → Prop) : Prop := Oper.wp Tryz.prog opST a w K Q
theorem wpST_eq (a : Act) (w : World) (K : Act → World → Prop) (Q : Exit → Act → World → Prop) : Oper.wp Tryz.prog opST a w K Q = WpST a w K Q := rfl
attribute [local go_sem ↓] wpST_eq
theorem wpST_mid {a : Act} {w : World} {K : Act → World → Prop} {Q : Exit → Act → World → Prop} (g : Nat) (cs : Array Value) (hx : a.eval (.tmp 2) = .pointer (some ⟨g, 0, none⟩)) (hy : a.eval (.tmp 80) = .agg cs) (ht : w.there g 0 cs.size) (hs : cs.size = 19) (h1 : cs.all (·.oneCell') = true)
    (h : K (a.put none undef) (w.setCells g 0 cs.toList)) : WpST a w K Q :=
  wp_store_mid (op := opST) 27 (.tmp 2) (.tmp 80) rfl g 0 cs hx hy ht (by rw [hs]; kernel_rfl) h1 h
theorem results_ct {P : Program} {fn : Func} {s u : Tmp} {t : TypeId} (h : fn.results = #[.cell s t, .tmp u]) {tmps : Array Value} {w : World} {a : Addr} {v1 : Value} (h1 : tmps.getD s undef = .pointer (some a)) (hL : (loadVar t a).run P w = .ok v1 w) :
    (results fn tmps).run P w = .ok (.tuple #[v1, tmps.getD u undef]) w := by
  have h1' : tmps[s]?.getD undef = .pointer (some a) := by simpa using h1
  simp [results, h, h1', asAddr, Sem.run_bind, Sem.run_pure, Result.andThen, hL]
set_option maxRecDepth 100000 in
set_option maxHeartbeats 3200000 in
theorem parse_ok (v : Nat) (n h b l : Bytes) (A : Option Addr) (c : Nat) (w : World) (hv : v = 1 ∨ v = 2) (hn : n.length = 16) (hh : h.length = 60) (hb : inBody v b.length = true) (hl : l = encB (envF v n h b))
    (hr : RB w A l) (hA : ∀ a, A = some a → a.block < w.heap.size) (hlc : l.length ≤ c) (hcm : c ≤ 9223372036854775807) :
    Calls Tryz.prog 15 #[.slice A l.length c] w (ParseOk v n h b w) := by
  have hw : walkR l = (placed 0 (envF v n h b), 0, 0) := by rw [hl]; exact walk_enc (env_okGo n h b (show v < 18446744073709551616 by omega)) (by simp [envF]) (env_fits hv hn hh hb)
  have hrd : readR (envS v) l = (0, 0, envP v n h b) := by rw [hl]; exact env_readR hv hn hh hb
  have hbl : b.length ≤ 4611686018427387904 := by have := inBody_le hb; have := mostB_le v; omega
  have X0 : Ext w (w.alloc (.cells zEnv 27 (0, 0))) := (Ext.refl _).alloc _
  have hz0 := new_blk w (.cells zEnv 27 (0, 0))
  have he : (walkR l).2.2 = 0 := by rw [hw]
  have HV := Lib.hid hv
  have HN := Lib.hid hn
  have HHH := Lib.hid hh
  have HB := Lib.hid hb
  have HW := Lib.hid hw
  have HE := Lib.hid he
  have HRD := Lib.hid hrd
  have HR := Lib.hid hr
  have HA := Lib.hid hA
  have HX0 := Lib.hid X0
  have HZ0 := Lib.hid hz0
  have hle : l.length ≤ 4194304 := by rw [hl]; exact env_fits hv hn hh hb
  clear hv hn hh hb hl hw hrd hr hA X0 he hz0
  go_enter Tryz.func15, Tryz.ntmps15
  go_wp2_with fail
  refine (decode_any A c l _ (HR.out.ext HX0.out) (fun a e => Nat.lt_of_lt_of_le (HA.out a e) HX0.out.size) hlc hcm).mono ?_
  rintro e w1 ⟨lv, ys, rfl, hof, hys, hx1⟩
  rw [if_pos HE.out] at hys
  rw [if_pos HE.out, HE.out]
  have hys2 : ys.map (·.1) = envF v n h b := by rw [hys, HW.out, placed_map]
  obtain ⟨Af, cf, rfl, hfc, hfb⟩ := of_reads hof
  have hyl : ys.length = 4 := by have := congrArg List.length hys2; simpa [envF] using this
  obtain ⟨gf, fo, rfl, hf0⟩ := hfc 0 (by omega)
  have hy0 : ys[0].1 = ⟨1, 0, v, []⟩ := by
    have h := congrArg (fun (t : List Fld) => t[0]?) hys2
    simpa [envF, show 0 < ys.length by omega] using h
  have q0 : w1.cell? ⟨gf, fo, none⟩ = some (.int .i64 1) := by have := hf0 0 (by decide); simpa [fcells, hy0] using this
  have q1 : w1.cell? ⟨gf, fo + 1, none⟩ = some (.int .i64 0) := by have := hf0 1 (by decide); simpa [fcells, hy0] using this
  have q2 : w1.cell? ⟨gf, fo + 2, none⟩ = some (.int .u64 v) := by have := hf0 2 (by decide); simpa [fcells, hy0] using this
  have hy1 : 1 ≤ ys.length := by omega
  have X1 := HX0.out.trans hx1
  have HZ1 := Lib.hid (hx1.heap HZ0.out)
  clear hof hys hys2 hfc hfb hy0 hf0 hyl
  go_wp2_with fail
  refine (versionOf_ok gf fo ys.length cf v _ _ q0 q1 q2 hy1 HV.out).mono ?_
  rintro e w2 ⟨rfl, hx2⟩
  clear q0 q1 q2
  go_wp2_with fail
  refine (envelopes_any v HV.out _).mono ?_
  rintro e w3 ⟨C, xs, rfl, hcd, hxs, hx3, hC⟩
  have X3 := X1.trans (hx2.trans hx3)
  have HZ3 := Lib.hid ((hx2.trans hx3).heap HZ1.out)
  have HXS := Lib.hid hxs
  have hxl : xs.length = 4 := by have := congrArg List.length hxs; simpa [envS] using this
  have HRX : Hid (readR (xs.map (·.1)) l = (0, 0, envP v n h b)) := Lib.hid (by rw [hxs, HRD.out])
  have HK : Hid (∀ x ∈ xs, x.1.kind = 1 ∨ x.1.kind = 2 ∨ x.1.kind = 4 ∨ x.1.kind = 5) := Lib.hid (fun x hx => by
    have h1 : x.1 ∈ envS v := by rw [← hxs]; exact List.mem_map.2 ⟨x, hx, rfl⟩
    simp [envS] at h1
    rcases h1 with h | h | h | h <;> rw [h] <;> simp)
  clear hxs
  have HCD := Lib.hid hcd
  clear hcd
  go_wp2_with fail
  refine (codec_Decode C C xs A c l _ HCD.out (HR.out.ext X3) (fun a e => Nat.lt_of_lt_of_le (HA.out a e) X3.size) hlc hcm (by omega) (by omega) HK.out).mono ?_
  rintro e w4 ⟨hx4, -, hok⟩
  obtain ⟨vv, zs, he4, hov, hzs⟩ := hok (by rw [HRX.out])
  subst he4
  clear hok
  rw [HRX.out] at hzs
  obtain ⟨x0, x1, x2, x3, rfl⟩ := map4 hzs
  clear hzs
  obtain ⟨gp, cp, rfl, hgp, hgp2, hpc⟩ := ov_reads hov (by simp)
  have ob1 : OB w4 w3.heap.size x1 n := hov.2.1 (⟨0, n⟩, x1) (by simp)
  have ob2 : OB w4 w3.heap.size x2 h := hov.2.1 (⟨0, h⟩, x2) (by simp)
  have ob3 : OB w4 w3.heap.size x3 b := hov.2.1 (⟨0, b⟩, x3) (by simp)
  have hap : apartV x2 x3 := by
    have := hov.2.2
    simp only [List.pairwise_cons] at this
    exact this.2.2.1 (⟨0, b⟩, x3) (by simp)
  obtain ⟨A1, c1, rfl, hc1, hc1', hr1, ha1⟩ := ob1.reads
  obtain ⟨A2, c2, rfl, hc2, hc2', hr2, ha2⟩ := ob2.reads
  obtain ⟨A3, c3, rfl, hc3, hc3', hr3, ha3⟩ := ob3.reads
  have r1 : w4.cell? ⟨gp, 4, none⟩ = some (.slice A1 n.length c1) := by have := hpc 1 (by simp) 1 (by decide); simpa [pcells] using this
  have r2 : w4.cell? ⟨gp, 7, none⟩ = some (.slice A2 h.length c2) := by have := hpc 2 (by simp) 1 (by decide); simpa [pcells] using this
  have r3 : w4.cell? ⟨gp, 10, none⟩ = some (.slice A3 b.length c3) := by have := hpc 3 (by simp) 1 (by decide); simpa [pcells] using this
  have X4 := X3.trans hx4
  have HZ4 := Lib.hid (hx4.heap HZ3.out)
  have HO2 := Lib.hid (ob2.base X3.size)
  have ha2b : ∀ k, (Value.slice A2 h.length c2).ownBlock = some k → w3.heap.size ≤ k := ob2.ge
  have ha3b : ∀ k, (Value.slice A3 b.length c3).ownBlock = some k → w3.heap.size ≤ k := ob3.ge
  have HO3 := Lib.hid (ob3.base X3.size)
  have HAP := Lib.hid hap
  have HR1 := Lib.hid hr1
  have hg1b : ∀ g o, A1 = some ⟨g, o, none⟩ → w3.heap.size ≤ g := fun g o e => ob1.ge g (ha1 _ e)
  clear hpc ob1 ob2 ob3 hap hov hr1 hr2 hr3 ha1 ha2 ha3
  go_wp2_with fail
  refine (isBody_any v b.length HV.out _ hbl).mono ?_
  rintro e w5 ⟨rfl, hx5⟩
  rw [HB.out]
  have hx45 := ((Ext.refl w4).alloc (.cells #[.int .u64 0, .slice none 0 0, .slice (some ⟨gp, 0, none⟩) 4 cp] 78 (0, 0))).trans hx5
  have hbV := hx5.heap (new_blk w4 (.cells #[.int .u64 0, .slice none 0 0, .slice (some ⟨gp, 0, none⟩) 4 cp] 78 (0, 0)))
  obtain ⟨_, _, s2, _⟩ := blk3 hbV
  have s4 := hx45.cell r1
  have s7 := hx45.cell r2
  have s10 := hx45.cell r3
  rw [HN.out] at s4
  obtain ⟨g1, o1, rfl, hn1⟩ := HR1.out.at_ (i := 0) (by rw [HN.out]; decide)
  have hrg : w5.rangeAt g1 o1 (cb n) := rb_range (fun j h => hx45.cell (hn1 j h))
  obtain ⟨n0, n1, n2, n3, n4, n5, n6, n7, n8, n9, n10, n11, n12, n13, n14, n15, hnn⟩ := len16 HN.out
  have HNN := Lib.hid hnn
  have harr := array_at g1 o1 c1
  have hu25 := Tryz.underlying25
  have hi25 : (Tryz.prog.info? 25).map (·.size) = some 16 := by kernel_rfl
  have hz3 := lt_of_heap HZ3.out
  have hwg : w.heap.size ≠ gp := by omega
  have hwv : w.heap.size ≠ w4.heap.size := by have := hx4.size; omega
  have hwn : w.heap.size ≠ g1 := by have := hg1b g1 o1 rfl; omega
  have hvl : v ≤ 2 := by have := HV.out; omega
  rw [hnn] at hrg
  simp only [cb, List.map_cons, List.map_nil] at hrg
  have KS := Lib.hid (fun w' (hg : Gr (fun k => k = w.heap.size) w5 w') => (⟨hg.cell s2 (by simp; omega), hg.cell s4 (by simp; omega), hg.cell s7 (by simp; omega), hg.cell s10 (by simp; omega), fun j u hj => hg.cell (hrg j u hj) (by simp; omega)⟩ :
    w'.cell? ⟨w4.heap.size, 2, none⟩ = some (.slice (some ⟨gp, 0, none⟩) 4 cp) ∧ w'.cell? ⟨gp, 4, none⟩ = some (.slice (some ⟨g1, o1, none⟩) 16 c1) ∧ w'.cell? ⟨gp, 7, none⟩ = some (.slice A2 h.length c2) ∧ w'.cell? ⟨gp, 10, none⟩ = some (.slice A3 b.length c3) ∧
      w'.rangeAt g1 o1 [.int .u8 n0.toNat, .int .u8 n1.toNat, .int .u8 n2.toNat, .int .u8 n3.toNat, .int .u8 n4.toNat, .int .u8 n5.toNat, .int .u8 n6.toNat, .int .u8 n7.toNat, .int .u8 n8.toNat, .int .u8 n9.toNat, .int .u8 n10.toNat, .int .u8 n11.toNat, .int .u8 n12.toNat, .int .u8 n13.toNat, .int .u8 n14.toNat, .int .u8 n15.toNat]))
  have HZ5 := Lib.hid (hx45.heap HZ4.out)
  have HTH : Hid (w5.drew.there w.heap.size 0 19) := Lib.hid (blk_there (cs := zEnv) HZ5.out)
  have hone : ∀ u ∈ ([.int .i64 v, .int .u8 n0.toNat, .int .u8 n1.toNat, .int .u8 n2.toNat, .int .u8 n3.toNat, .int .u8 n4.toNat, .int .u8 n5.toNat, .int .u8 n6.toNat, .int .u8 n7.toNat, .int .u8 n8.toNat, .int .u8 n9.toNat, .int .u8 n10.toNat, .int .u8 n11.toNat, .int .u8 n12.toNat, .int .u8 n13.toNat, .int .u8 n14.toNat, .int .u8 n15.toNat, .slice A2 h.length c2, .slice A3 b.length c3] : List Value), u.oneCell' = true := one_env v [n0, n1, n2, n3, n4, n5, n6, n7, n8, n9, n10, n11, n12, n13, n14, n15] A2 A3 h.length c2 b.length c3
  have HST : Hid (∀ (a : Act) (K : Act → World → Prop) (Q : Exit → Act → World → Prop), a.eval (.tmp 2) = .pointer (some ⟨w.heap.size, 0, none⟩) → a.eval (.tmp 80) = .agg #[.int .i64 v, .int .u8 n0.toNat, .int .u8 n1.toNat, .int .u8 n2.toNat, .int .u8 n3.toNat, .int .u8 n4.toNat, .int .u8 n5.toNat, .int .u8 n6.toNat, .int .u8 n7.toNat, .int .u8 n8.toNat, .int .u8 n9.toNat, .int .u8 n10.toNat, .int .u8 n11.toNat, .int .u8 n12.toNat, .int .u8 n13.toNat, .int .u8 n14.toNat, .int .u8 n15.toNat, .slice A2 h.length c2, .slice A3 b.length c3] → (∀ W7, Hid (W7.rangeAt w.heap.size 0 [.int .i64 v, .int .u8 n0.toNat, .int .u8 n1.toNat, .int .u8 n2.toNat, .int .u8 n3.toNat, .int .u8 n4.toNat, .int .u8 n5.toNat, .int .u8 n6.toNat, .int .u8 n7.toNat, .int .u8 n8.toNat, .int .u8 n9.toNat, .int .u8 n10.toNat, .int .u8 n11.toNat, .int .u8 n12.toNat, .int .u8 n13.toNat, .int .u8 n14.toNat, .int .u8 n15.toNat, .slice A2 h.length c2, .slice A3 b.length c3]) → Gr (fun k => k = w.heap.size) w5 W7 → K (a.put none undef) W7) → WpST a w5.drew K Q) :=
    Lib.hid (fun a K Q e1 e2 hk => wpST_mid w.heap.size _ e1 e2 HTH.out rfl (all_oneCell_toArray hone) (hk _ (Lib.hid (World.rangeAt_setCells_same _ _ _ _ HTH.out)) (Gr.trans (Gr.of_ext (Ext.drew (Ext.refl _))) (gr_setCells _ _ _ _))))
  clear hone
  clear r1 r2 r3 hbV hx5 hn1 hnn
  go_wp2_with fail
  rw [← opST_eq]
  go_region_held3 (fun w' => w'.cell? ⟨w4.heap.size, 2, none⟩ = some (.slice (some ⟨gp, 0, none⟩) 4 cp) ∧ w'.cell? ⟨gp, 4, none⟩ = some (.slice (some ⟨g1, o1, none⟩) 16 c1) ∧ w'.cell? ⟨gp, 7, none⟩ = some (.slice A2 h.length c2) ∧ w'.cell? ⟨gp, 10, none⟩ = some (.slice A3 b.length c3) ∧
      w'.rangeAt g1 o1 [.int .u8 n0.toNat, .int .u8 n1.toNat, .int .u8 n2.toNat, .int .u8 n3.toNat, .int .u8 n4.toNat, .int .u8 n5.toNat, .int .u8 n6.toNat, .int .u8 n7.toNat, .int .u8 n8.toNat, .int .u8 n9.toNat, .int .u8 n10.toNat, .int .u8 n11.toNat, .int .u8 n12.toNat, .int .u8 n13.toNat, .int .u8 n14.toNat, .int .u8 n15.toNat])
    (first
      | (with_reducible exact KS.out _ (Gr.of_ext (Ext.drew (Ext.refl _))))
      | exact KS.out _ G7)
    (first | (refine HST.out _ _ _ (by rfl) (by rfl) ?_; intro W7 H7 G7))
  go_wp2
  have hu27 := Tryz.underlying27
  have hL : (loadVar 27 ⟨w.heap.size, 0, none⟩).run Tryz.prog W7 = .ok (.agg #[.int .i64 v, .int .u8 n0.toNat, .int .u8 n1.toNat, .int .u8 n2.toNat, .int .u8 n3.toNat, .int .u8 n4.toNat, .int .u8 n5.toNat, .int .u8 n6.toNat, .int .u8 n7.toNat, .int .u8 n8.toNat, .int .u8 n9.toNat, .int .u8 n10.toNat, .int .u8 n11.toNat, .int .u8 n12.toNat, .int .u8 n13.toNat, .int .u8 n14.toNat, .int .u8 n15.toNat, .slice A2 h.length c2, .slice A3 b.length c3]) W7 := run_loadVar_mid W7 _ 0 _ [.int .i64 v, .int .u8 n0.toNat, .int .u8 n1.toNat, .int .u8 n2.toNat, .int .u8 n3.toNat, .int .u8 n4.toNat, .int .u8 n5.toNat, .int .u8 n6.toNat, .int .u8 n7.toNat, .int .u8 n8.toNat, .int .u8 n9.toNat, .int .u8 n10.toNat, .int .u8 n11.toNat, .int .u8 n12.toNat, .int .u8 n13.toNat, .int .u8 n14.toNat, .int .u8 n15.toNat, .slice A2 h.length c2, .slice A3 b.length c3] _ H7.out hu27 rfl (by kernel_rfl)
  have X7 : Ext w W7 := by
    have hz := lt_of_heap HZ5.out
    exact G7.below (X4.trans hx45) (X4.trans hx45).size (fun k hk => by omega)
  refine bodyPost_ret (results_ct Tryz.results15 (by rfl) hL) rfl ⟨X7, #[.int .i64 v, .int .u8 n0.toNat, .int .u8 n1.toNat, .int .u8 n2.toNat, .int .u8 n3.toNat, .int .u8 n4.toNat, .int .u8 n5.toNat, .int .u8 n6.toNat, .int .u8 n7.toNat, .int .u8 n8.toNat, .int .u8 n9.toNat, .int .u8 n10.toNat, .int .u8 n11.toNat, .int .u8 n12.toNat, .int .u8 n13.toNat, .int .u8 n14.toNat, .int .u8 n15.toNat, .slice A2 h.length c2, .slice A3 b.length c3], A2, A3, c2, c3, rfl, ?_, ?_, ?_, HAP.out⟩
  · rw [HNN.out]; rfl
  · exact (HO2.out.ext hx45).gr G7 (fun k hk e => by have := ha2b k hk; omega)
  · exact (HO3.out.ext hx45).gr G7 (fun k hk e => by have := ha3b k hk; omega)
end Go.Proofs.YtehfoddnlecmjaaGreatDoor
