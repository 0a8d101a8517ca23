/- The contracts of package schema: Decode. -/
import Derived.Test.YtehfoddnlecmjaaGreatDoorSch12
import Derived.Test.YtehfoddnlecmjaaGreatDoorSch10
set_option linter.unusedVariables false
set_option linter.unusedSimpArgs false
namespace Go.Proofs.YtehfoddnlecmjaaGreatDoor
open Go.RowKit

theorem CodecAt.ext {w w' : World} {base C : Nat} {xs : List SlP} (h : CodecAt w base C xs) (hx : Ext w w') : CodecAt w' base C xs := by
  obtain ⟨v, p, q, h2, h3, h4⟩ := h
  exact ⟨v, p, q, hx.heap h2, own_gr (S := fun _ => False) h3 (Gr.of_ext hx) (fun _ _ => id), fun x hx' => (h4 x hx').ext hx⟩
theorem own_base {w : World} {b b' : Nat} {e : TypeId} {s n : Nat} {v : Value} {xs : List Value} (h : w.ownsRow b e s v n xs) (hb : b' ≤ b) : w.ownsRow b' e s v n xs := by
  refine ⟨h.1, ?_⟩
  rcases h.2 with h | ⟨g, cap, cur, rfl, hg, h2⟩
  · exact .inl h
  · exact .inr ⟨g, cap, cur, rfl, Nat.le_trans hb hg, h2⟩
theorem OV.base {w : World} {b b' : Nat} {v : Value} {zs : List (PV × Value)} (h : OV w b v zs) (hb : b' ≤ b) : OV w b' v zs := ⟨own_base h.1 hb, fun z hz => (h.2.1 z hz).base hb, h.2.2⟩
theorem OV.gr {S : Nat → Prop} {w w' : World} {b : Nat} {v : Value} {zs : List (PV × Value)} (h : OV w b v zs) (hg : Gr S w w') (hS : ∀ k, S k → k < b) : OV w' b v zs :=
  ⟨own_gr h.1 hg (fun k hk hs => by have := own_ge h.1 k hk; have := hS k hs; omega), fun z hz => (h.2.1 z hz).gr hg (fun k hk hs => by have := (h.2.1 z hz).ge k hk; have := hS k hs; omega), h.2.2⟩
/-- What decode leaves: at V the value, or the fault that is handed back. -/
def DPost (ss : List Sl) (l : Bytes) (V : Nat) (w : World) (e : Ending) (w' : World) : Prop :=
  w.grownBy w' (some V) ∧ ((readR ss l).1 ≠ 0 → ∃ F, w.heap.size ≤ F ∧ e = .returned (.iface 73 (.pointer (some ⟨F, 0, none⟩))) ∧ w'.heap[F]? = some (.cells #[.int .i64 0, .int .i64 (readR ss l).2.1, .int .i64 (readR ss l).1] 34 (0, 0))) ∧
    ((readR ss l).1 = 0 → ∃ v zs, e = .returned .nilIface ∧ w'.heap[V]? = some (.cells #[.int .u64 0, .slice none 0 0, v] 78 (0, 0)) ∧ OV w' w.heap.size v zs ∧ zs.map (·.1) = (readR ss l).2.2)
set_option maxRecDepth 100000 in
set_option maxHeartbeats 1600000 in
theorem codec_decode (C base V : Nat) (xs : List SlP) (A : Option Addr) (c : Nat) (l : Bytes) (w : World) (hc : CodecAt w base C xs) (hr : RB w A l) (hA : ∀ a, A = some a → a.block < w.heap.size) (hlc : l.length ≤ c) (hcc : c ≤ 9223372036854775807)
    (h1 : 1 ≤ xs.length) (h64 : xs.length ≤ 64) (hk : ∀ x ∈ xs, x.1.kind = 1 ∨ x.1.kind = 2 ∨ x.1.kind = 4 ∨ x.1.kind = 5) {q0 q1 q2 : Value} (hV : w.heap[V]? = some (.cells #[q0, q1, q2] 78 (0, 0))) :
    Calls Tryz.prog 56 #[.pointer (some ⟨C, 0, none⟩), .slice A l.length c, .pointer (some ⟨V, 0, none⟩)] w (DPost (xs.map (·.1)) l V w) := by
  have hmf : ∀ (fn : Fn) (first cap : Array Value) (w : World), (Instr.makeFunc fn first cap).run Tryz.prog w = .ok (.func fn first cap) w := fun _ _ _ _ => rfl
  have X0 : Ext w (w.alloc (.cells #[.nilIface] 29 (0, 0))) := (Ext.refl _).alloc _
  have hB := new_blk w (.cells #[.nilIface] 29 (0, 0))
  have HC := Lib.hid (codec_read C base xs A c l 0 _ (Int.le_refl _) (by decide) (hc.ext X0) (hr.ext X0) (fun a e => Nat.lt_of_lt_of_le (hA a e) X0.size) hlc hcc h1 h64 hk)
  have hVl := lt_of_heap hV
  clear hc hr hA
  go_enter_defers Tryz.func56, Tryz.ntmps56
  go_wp2_with fail
  refine HC.out.mono ?_
  rintro e w1 ⟨hx1, hbad, hok⟩
  by_cases h : (readR (xs.map (·.1)) l).1 = 0
  · obtain ⟨v, zs, rfl, hov, hzs⟩ := hok h
    obtain ⟨Ae, ce, rfl⟩ := own_form hov.1
    have hV1 := hx1.heap (X0.heap hV)
    have hB1 := hx1.heap hB
    obtain ⟨a0, a1, a2, y0, y1, y2⟩ := blk3 hV1
    have hne : V ≠ w.heap.size := by omega
    have hB2 := set_heap (g := V) (o := 2) (v := .slice Ae zs.length ce) (set_heap (g := V) (o := 1) (v := .slice none 0 0) (set_heap (g := V) (o := 0) (v := .int .u64 0) hB1 hne) hne) hne
    have b0 := cell_of_one hB2
    have b1 := free_of_one hB2
    have HV1 := Lib.hid hV1
    have HB1 := Lib.hid hB1
    have HB2 := Lib.hid hB2
    have HOV := Lib.hid hov
    clear hV1 hB1 hB2 hov hbad hok
    go_wp2
    refine leaves_cons (f := 73) (args := #[.pointer (some ⟨w.heap.size, 0, none⟩)]) (by simp) (by simp [go_sem]) ?_
    refine (caught_idle w.heap.size _).mono ?_
    rintro e u' w'' ⟨rfl, rfl, rfl⟩
    have hfin : DPost (xs.map (·.1)) l V w (.returned .nilIface) ((((w1.setCell ⟨V, 0, none⟩ (.int .u64 0)).setCell ⟨V, 1, none⟩ (.slice none 0 0)).setCell ⟨V, 2, none⟩ (.slice Ae zs.length ce)).setCell ⟨w.heap.size, 0, none⟩ .nilIface) := by
      have g1 : w.grownBy w1 (some V) := (X0.trans hx1).grown _
      have g4 := grown_trans (grown_trans (grown_trans g1 (grown_store w1 V 0 (.int .u64 0))) (grown_store _ V 1 (.slice none 0 0))) (grown_store _ V 2 (.slice Ae zs.length ce))
      refine ⟨grown_then g4 (grown_store _ w.heap.size 0 .nilIface) (fun j e => .inr (by injection e with e; omega)), fun h' => absurd h h', fun _ => ⟨.slice Ae zs.length ce, zs, rfl, set_heap ?_ (fun e => hne e.symm), ?_, hzs⟩⟩
      · simp [World.setCell, Array.getElem?_modify, HV1.out]
      · refine (HOV.out.gr (S := fun k => k = V ∨ k = w.heap.size) ?_ ?_).base (by simp)
        · refine (((Gr.of_grown (grown_store _ _ _ _) ?_).trans (Gr.of_grown (grown_store _ _ _ _) ?_)).trans (Gr.of_grown (grown_store _ _ _ _) ?_)).trans (Gr.of_grown (grown_store _ _ _ _) ?_)
          · exact fun k hk => .inl (by injection hk with hk; exact hk.symm)
          · exact fun k hk => .inl (by injection hk with hk; exact hk.symm)
          · exact fun k hk => .inl (by injection hk with hk; exact hk.symm)
          · exact fun k hk => .inr (by injection hk with hk; exact hk.symm)
        · rintro k (rfl | rfl)
          · simp; omega
          · simp
    simp [Leaves, settle, results, Tryz.results56, go_sem, b0]
    exact hfin
  · obtain rfl := hbad h
    have hB1 := hx1.heap hB
    go_wp2
    refine leaves_cons (f := 73) (args := #[.pointer (some ⟨w.heap.size, 0, none⟩)]) (by simp) (by simp [go_sem]) ?_
    refine (caught_fault w.heap.size _ _ _ _ hB1).mono ?_
    rintro e u' w'' ⟨rfl, rfl, F, hF, hf1, hf2, hgr⟩
    have b0 := cell_of_one hf2
    have hfin : DPost (xs.map (·.1)) l V w (.returned (.iface 73 (.pointer (some ⟨F, 0, none⟩)))) w'' := by
      refine ⟨grown_then ((X0.trans hx1).grown _) hgr (fun j e => .inr (by injection e with e; omega)), fun _ => ⟨F, Nat.le_trans (X0.trans hx1).size hF, rfl, ?_⟩, fun h' => absurd h' h⟩
      exact hf1
    simp [Leaves, settle, results, Tryz.results56, go_sem, b0]
    exact hfin
@[go_sem] theorem neq_err (v : Value) (w : World) : (binOp .neq 29 (.iface 73 v) .nilIface).run Tryz.prog w = .ok (.bool true) w := by kernel_rfl
@[go_sem] theorem neq_err0 (w : World) : (binOp .neq 29 .nilIface .nilIface).run Tryz.prog w = .ok (.bool false) w := by kernel_rfl
/-- What Decode hands back. -/
def DDPost (ss : List Sl) (l : Bytes) (w : World) (e : Ending) (w' : World) : Prop :=
  Ext w w' ∧ ((readR ss l).1 ≠ 0 → ∃ F, w.heap.size ≤ F ∧ e = .returned (.tuple #[.agg #[.int .u64 0, .slice none 0 0, .slice none 0 0], .iface 73 (.pointer (some ⟨F, 0, none⟩))]) ∧ w'.heap[F]? = some (.cells #[.int .i64 0, .int .i64 (readR ss l).2.1, .int .i64 (readR ss l).1] 34 (0, 0))) ∧
    ((readR ss l).1 = 0 → ∃ v zs, e = .returned (.tuple #[.agg #[.int .u64 0, .slice none 0 0, v], .nilIface]) ∧ OV w' w.heap.size v zs ∧ zs.map (·.1) = (readR ss l).2.2)
set_option maxRecDepth 100000 in
set_option maxHeartbeats 1600000 in
theorem codec_Decode (C base : Nat) (xs : List SlP) (A : Option Addr) (c : Nat) (l : Bytes) (w : World) (hc : CodecAt w base C xs) (hr : RB w A l) (hA : ∀ a, A = some a → a.block < w.heap.size) (hlc : l.length ≤ c) (hcc : c ≤ 9223372036854775807)
    (h1 : 1 ≤ xs.length) (h64 : xs.length ≤ 64) (hk : ∀ x ∈ xs, x.1.kind = 1 ∨ x.1.kind = 2 ∨ x.1.kind = 4 ∨ x.1.kind = 5) :
    Calls Tryz.prog 38 #[.pointer (some ⟨C, 0, none⟩), .slice A l.length c] w (DDPost (xs.map (·.1)) l w) := by
  have X0 : Ext w ((w.alloc (.cells #[.int .u64 0, .slice none 0 0, .slice none 0 0] 78 (0, 0))).alloc (.cells #[.int .u64 0, .slice none 0 0, .slice none 0 0] 78 (0, 0))) := ((Ext.refl _).alloc _).alloc _
  have hR := old_blk (new_blk w (.cells #[.int .u64 0, .slice none 0 0, .slice none 0 0] 78 (0, 0))) (.cells #[.int .u64 0, .slice none 0 0, .slice none 0 0] 78 (0, 0))
  have hV := new_blk (w.alloc (.cells #[.int .u64 0, .slice none 0 0, .slice none 0 0] 78 (0, 0))) (.cells #[.int .u64 0, .slice none 0 0, .slice none 0 0] 78 (0, 0))
  rw [World.size_alloc] at hV
  have HC := Lib.hid (codec_decode C base (w.heap.size + 1) xs A c l _ (hc.ext X0) (hr.ext X0) (fun a e => Nat.lt_of_lt_of_le (hA a e) X0.size) hlc hcc h1 h64 hk hV)
  clear hc hr hA
  go_enter Tryz.func38, Tryz.ntmps38
  go_wp2_with fail
  refine HC.out.mono ?_
  rintro e w1 ⟨hg1, hbad, hok⟩
  have X1 : Ext w w1 := X0.then_grown hg1 (fun k e => by injection e with e; omega)
  have hR1 := (hg1.block w.heap.size (lt_of_heap hR) (by simp)).trans hR
  obtain ⟨a0, a1, a2, y0, y1, y2⟩ := blk3 hR1
  by_cases h : (readR (xs.map (·.1)) l).1 = 0
  · obtain ⟨v, zs, rfl, hv, hov, hzs⟩ := hok h
    obtain ⟨Ae, ce, rfl⟩ := own_form hov.1
    obtain ⟨b0, b1, b2, _⟩ := blk3 hv
    clear hbad hok
    go_wp2
    have X2 : Ext w (((w1.setCell ⟨w.heap.size, 0, none⟩ (.int .u64 0)).setCell ⟨w.heap.size, 1, none⟩ (.slice none 0 0)).setCell ⟨w.heap.size, 2, none⟩ (.slice Ae zs.length ce)) := ((X1.setCell (p := ⟨w.heap.size, 0, none⟩) (by simp) _).setCell (p := ⟨w.heap.size, 1, none⟩) (by simp) _).setCell (p := ⟨w.heap.size, 2, none⟩) (by simp) _
    refine bodyPost_ret (v := .tuple #[.agg #[.int .u64 0, .slice none 0 0, .slice Ae zs.length ce], .nilIface]) (by simp [results, Tryz.results38, go_sem, a0, a1, a2]) rfl ⟨X2, fun h' => absurd h h', fun _ => ⟨_, zs, rfl, ?_, hzs⟩⟩
    refine (hov.gr (S := fun k => k = w.heap.size) ?_ (fun k hk => by subst hk; rw [World.size_alloc, World.size_alloc]; omega)).base X0.size
    exact ((Gr.of_grown (grown_store _ _ _ _) (fun k hk => by injection hk with hk; exact hk.symm)).trans (Gr.of_grown (grown_store _ _ _ _) (fun k hk => by injection hk with hk; exact hk.symm))).trans (Gr.of_grown (grown_store _ _ _ _) (fun k hk => by injection hk with hk; exact hk.symm))
  · obtain ⟨F, hF, rfl, hf⟩ := hbad h
    clear hbad hok
    go_wp2
    have X2 : Ext w (((w1.setCell ⟨w.heap.size, 0, none⟩ (.int .u64 0)).setCell ⟨w.heap.size, 1, none⟩ (.slice none 0 0)).setCell ⟨w.heap.size, 2, none⟩ (.slice none 0 0)) := ((X1.setCell (p := ⟨w.heap.size, 0, none⟩) (by simp) _).setCell (p := ⟨w.heap.size, 1, none⟩) (by simp) _).setCell (p := ⟨w.heap.size, 2, none⟩) (by simp) _
    have hFl : w.heap.size < F := by simp at hF; omega
    refine bodyPost_ret (v := .tuple #[.agg #[.int .u64 0, .slice none 0 0, .slice none 0 0], .iface 73 (.pointer (some ⟨F, 0, none⟩))]) (by simp [results, Tryz.results38, go_sem, a0, a1, a2]) rfl ⟨X2, fun _ => ⟨F, by omega, rfl, ?_⟩, fun h' => absurd h' h⟩
    exact set_heap (set_heap (set_heap hf (by omega)) (by omega)) (by omega)
end Go.Proofs.YtehfoddnlecmjaaGreatDoor
