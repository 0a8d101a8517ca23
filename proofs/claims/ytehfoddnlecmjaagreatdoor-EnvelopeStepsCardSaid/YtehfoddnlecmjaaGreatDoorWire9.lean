/- The contracts of package wire: Fields. -/
import Derived.Test.YtehfoddnlecmjaaGreatDoorWire8
import Derived.RangeFuncNested
import Derived.RangeFuncBound
import Derived.RangeFuncCalls
import Derived.RangeFuncLeaves
import Derived.Shelf.Abstract
import Derived.OwnWalkIn
import Derived.TacticsInMore
import Derived.LoopNIn
import Derived.LoopIn
set_option linter.unusedVariables false
set_option linter.unusedSimpArgs false
namespace Go.Proofs.YtehfoddnlecmjaaGreatDoor
open Go.RowKit

theorem round_deep {m m' : Nat} {P : Program} {l : Nat} {f : FuncId} {tmps : Array Value} {assign body : Code} {w : World} {R : Ending → World → Prop}
    (h : RoundIn Fence.wide m P l f tmps assign body w R) : RoundIn Fence.wide m' P l f tmps assign body w R := ⟨h.1, fun c cs _ => h.2 c cs (fun d h => by cases h)⟩
theorem yield_deep {m : Nat} (m' : Nat) {P : Program} {l : Nat} {args : Array Value} {W : World} {R : Ending → World → Prop} (h : YieldAt Fence.wide m P l args W R) : YieldAt Fence.wide m' P l args W R := by
  obtain ⟨fn, tmps, assign, body, hy, hR⟩ := h
  exact ⟨fn, tmps, assign, body, hy, round_deep hR⟩
/-- What a round keeps: bytes and fields. -/
structure KpB (W W' : World) : Prop where
  size : W.heap.size ≤ W'.heap.size
  bytes : ∀ (k : Nat) (cs : Array Value) (fr : Nat × Nat), W.heap[k]? = some (.cells cs 5 fr) → W'.heap[k]? = W.heap[k]?
  field : ∀ (k : Nat) (cs : Array Value) (fr : Nat × Nat), W.heap[k]? = some (.cells cs 60 fr) → W'.heap[k]? = W.heap[k]?
theorem KpB.trans {A B C : World} (h : KpB A B) (k : KpB B C) : KpB A C :=
  ⟨Nat.le_trans h.size k.size, fun i cs fr hi => (k.bytes i cs fr ((h.bytes i cs fr hi).trans hi)).trans (h.bytes i cs fr hi), fun i cs fr hi => (k.field i cs fr ((h.field i cs fr hi).trans hi)).trans (h.field i cs fr hi)⟩
theorem KpB.put {w : World} (W : World) (l : Nat) (o o' : Obj) (_ : w.heap.size ≤ l) (h : W.heap[l]? = some o) (ho : o.isCells = false) (_ : o.isWalk = false) : KpB W (W.putObj l o') := by
  refine ⟨(grownBy_putObj' W l o').size, fun k cs fr hk => World.putObj_heap_other (fun e => ?_), fun k cs fr hk => World.putObj_heap_other (fun e => ?_)⟩
  · subst e; rw [h] at hk; simp at hk; subst hk; cases ho
  · subst e; rw [h] at hk; simp at hk; subst hk; cases ho
/-- A row of bytes that a round keeps. -/
def RK (w : World) (A : Option Addr) (l : Bytes) : Prop := RB w A l ∧ ∀ a, A = some a → IsB w a.block
theorem RK.kept {w w' : World} {A : Option Addr} {l : Bytes} (h : RK w A l) (hk : KpB w w') : RK w' A l := by
  have hb : ∀ a, A = some a → w'.heap[a.block]? = w.heap[a.block]? := fun a e => by obtain ⟨cs, fr, hc⟩ := h.2 a e; exact hk.bytes _ _ _ hc
  refine ⟨?_, fun a e => ?_⟩
  · rcases h.1 with h1 | ⟨b, o, e, h1⟩
    · exact .inl h1
    · exact .inr ⟨b, o, e, fun i hi => (World.cell?_of_block (a := ⟨b, o + i, none⟩) (hb ⟨b, o, none⟩ e)).trans (h1 i hi)⟩
  · obtain ⟨cs, fr, hc⟩ := h.2 a e
    exact ⟨cs, fr, (hb a e).trans hc⟩
theorem RK.ext {w w' : World} {A : Option Addr} {l : Bytes} (h : RK w A l) (hk : Ext w w') : RK w' A l :=
  ⟨h.1.ext hk, fun a e => by obtain ⟨cs, fr, hc⟩ := h.2 a e; exact ⟨cs, fr, hk.heap hc⟩⟩
/-- A field as a round is handed it. -/
abbrev Item := Nat × Fld × Value
def itemV (x : Item) : Array Value := #[.int .i64 x.1, .agg #[.int .i64 x.2.1.no, .int .i64 x.2.1.ty, .int .u64 x.2.1.num, x.2.2]]
/-- What is handed to a round: a place in the bytes, data that is a slice. -/
def WalkK (W : World) (l : Bytes) (J Jx : List Item → World → Prop) (e : Ending) (W' : World) : Prop :=
  (∃ v, e = .returned v) ∧ ((∃ xs, xs.map (fun x => (x.1, x.2.1)) = (walkR l).1 ∧ J xs W') ∨ (∃ pre, Jx pre W'))
set_option maxRecDepth 100000 in
set_option maxHeartbeats 1600000 in
theorem walk_seq (n lp : Nat) (J Jx : List Item → World → Prop) (A : Option Addr) (c : Nat) (l : Bytes) (W : World) (hR : RK W A l) (hl : l.length ≤ 4194304) (hlc : l.length ≤ c) (hc : c ≤ 9223372036854775807)
    (hJ : AbidesFrom W.heap.size J)
    (hY : ∀ pre x W1, J pre W1 → pre.length < 64 → YieldAt Fence.wide (n - 1) Tryz.prog lp (itemV x) W1 fun e W' => (e = .returned (.bool true) ∧ J (pre ++ [x]) W' ∧ KpB W1 W') ∨ (e = .returned (.bool false) ∧ Jx (pre ++ [x]) W'))
    (h0 : J [] W) : Calls Tryz.prog 48 #[.slice A l.length c, .func (.yield lp) #[] #[]] W (WalkK W l J Jx) := by
  have HW := Lib.hid (walkR_le hl)
  have HRK := Lib.hid hR
  have HJ := Lib.hid h0
  clear hR h0
  go_enter Tryz.func48, Tryz.ntmps48
  go_wp2
  go_step3
  go_wp2
  go_step3
  go_wp2
  refine (wpIn_wide (n := n)).1 ?_
  gi_loopw [6, 7, 8] (fun a b i wr => ∃ (done : List (Nat × Fld)) (last p : Nat) (xs : List Item), Hid (Mid l done p last) ∧ a = .int .i64 done.length ∧ b = .int .i64 last ∧ i = .int .i64 p ∧ p ≤ l.length ∧ done.length ≤ 64 ∧ Hid (J xs wr) ∧ Hid (xs.map (fun x => (x.1, x.2.1)) = done) ∧ Hid (RK wr A l) ∧ W.heap.size ≤ wr.heap.size) (fun _ _ i _ => l.length - (intOf i).toNat)
  case atStart => exact ⟨[], 0, 0, [], Lib.hid (Mid.nil l), rfl, rfl, rfl, by omega, by simp, HJ, Lib.hid rfl, HRK, Nat.le_refl _⟩
  case round =>
    obtain ⟨done, last, p, xs, HM, rfl, rfl, rfl, hp, hd64, HJx, HX, HR, hsz⟩ := hrel
    by_cases hlt : p < l.length
    · have hr := HR.out.1
      by_cases h1 : (headR l p done.length last).2.2.2 = 0
      · have k1 := headR_ok hp h1
        have hty := head_wrong k1.2.2.2.2.1
        have k5 := wrong_0 k1.2.2.2.2.1
        by_cases h2 : (valueR l (headR l p done.length last).2.1 (headR l p done.length last).2.2.1).2.2.2 = 0
        · have HS := Lib.hid (HM.out.step hlt h1 h2)
          have k2 := valueR_ok k1.2.1 h2
          have H1 := Lib.hid h1
          have H2 := Lib.hid h2
          have hcnt := k1.2.2.2.1
          have hq := k1.2.1
          have hty' := hty
          simp only at hty'
          have k6 := k2.1
          have k7 := k2.2.1
          have k8 := k1.1
          clear h1 h2 k1 k5 k2 HM
          generalize hN : (headR l p done.length last).1 = no at *
          generalize hT : (headR l p done.length last).2.1 = ty at *
          generalize hQ : (headR l p done.length last).2.2.1 = q at *
          have HN := Lib.hid hN
          have HT := Lib.hid hT
          have HQ := Lib.hid hQ
          clear hN hT hQ
          gi_wp2_with fail
          refine ⟨trivial, (fun h => by cases h), (callsIn_wide.2 (head_any A c l p done.length last _ hr (by omega) hp hd64)).mono ?_⟩
          rintro e w1 ⟨rfl, hx1⟩
          unfold headV
          rw [HN.out, HT.out, HQ.out, H1.out]
          gi_wp2_with fail
          refine ⟨trivial, (fun h => by cases h), (callsIn_wide.2 (value_any ty hty A c l q no w1.heap.size _ ((hr.ext hx1).ext ((Ext.refl _).alloc _)) hl hlc hc hq (new_blk w1 _))).mono ?_⟩
          rintro e w2 ⟨dv, rfl, hg2, ho2, hgr2⟩
          rw [H2.out]
          generalize hE : (valueR l ty q).2.2.1 = ed at *
          obtain ⟨A2, c2, rfl, hr2⟩ := ho2.reads
          generalize hDT : (valueR l ty q).2.1 = dt at *
          generalize hNM : (valueR l ty q).1 = nm at *
          obtain ⟨b0, b1, b2, b3, f0, f1, f2, f3⟩ := blk4 (show w2.heap[w1.heap.size]? = some (.cells #[.int .i64 no, .int .i64 ty, .int .u64 nm, .slice A2 dt.length c2] 60 (0, 0)) from hg2)
          have hx12 : Ext wr w2 := Ext.then_new hx1 hgr2
          have hx64 : xs.length < 64 := by have := congrArg List.length HX.out; simp at this; omega
          have hJ2 : J xs w2 := hJ xs wr w2 none HJx.out (hx12.grown none) (fun r e => by cases e)
          have hR2 := HR.out.ext hx12
          obtain ⟨fn, tmps, assign, body, hy, hRd⟩ := hY xs (p, ⟨no, ty, nm, dt⟩, .slice A2 dt.length c2) w2 hJ2 hx64
          dsimp only [itemV] at hy
          gi_wp2_with fail
          refine ⟨(fun h => by cases h), (round_deep hRd).mono ?_⟩
          rintro e w3 (⟨rfl, hJ3, hk3⟩ | ⟨rfl, hJx3⟩)
          · have c0 : w3.cell? ⟨w1.heap.size, 0, none⟩ = some (.int .i64 no) := (World.cell?_of_block (hk3.field _ _ _ hg2)).trans b0
            gi_wp2_with fail
            refine wpIn_wide.2 ?_
            go_region
            go_wp2
            refine ⟨⟨done ++ [(p, ⟨no, ty, nm, dt⟩)], no, ed, _, HS, ?_, rfl, rfl, k7, ?_, Lib.hid (hJ _ w3 _ none hJ3 ((Ext.drew (Ext.refl w3)).grown none) (fun r e => by cases e)), ?_, Lib.hid ((hR2.kept hk3).ext (Ext.drew (Ext.refl w3))), ?_⟩, ?_⟩
            · simp
            · simp; omega
            · exact Lib.hid (by simp [HX.out])
            · have := hk3.size; have := hx12.size; show W.heap.size ≤ w3.heap.size; omega
            · simp [intOf]; omega
          · gi_wp2
            go_wp2
            rw [Exit.noGoto_ret]
            go_ret2
            exact ⟨⟨_, rfl⟩, .inr ⟨_, hJx3⟩⟩
        · have HG : Hid (walkR l = (done, (headR l p done.length last).2.2.1, (valueR l (headR l p done.length last).2.1 (headR l p done.length last).2.2.1).2.2.2)) := by
            exact (by have := HM.out; unfold Mid at this; rw [HW.out, this, wg_val hlt h1 h2, List.append_nil] : walkR l = (done, (headR l p done.length last).2.2.1, (valueR l (headR l p done.length last).2.1 (headR l p done.length last).2.2.1).2.2.2))
          have H1 := Lib.hid h1
          have h2' : ((((valueR l (headR l p done.length last).2.1 (headR l p done.length last).2.2.1).2.2.2 : Nat) : Int) != 0) = true := by simp; exact h2
          have hq := k1.2.1
          have hty' := hty
          simp only at hty'
          clear h1 h2 k1 k5 HM
          generalize hN : (headR l p done.length last).1 = no at *
          generalize hT : (headR l p done.length last).2.1 = ty at *
          generalize hQ : (headR l p done.length last).2.2.1 = q at *
          have HN := Lib.hid hN
          have HT := Lib.hid hT
          have HQ := Lib.hid hQ
          clear hN hT hQ
          refine wpIn_wide.2 ?_
          go_wp2_with fail
          refine (head_any A c l p done.length last _ hr (by omega) hp hd64).mono ?_
          rintro e w1 ⟨rfl, hx1⟩
          unfold headV
          rw [HN.out, HT.out, HQ.out, H1.out]
          go_wp2_with fail
          refine (value_any ty hty A c l q no w1.heap.size _ ((hr.ext hx1).ext ((Ext.refl _).alloc _)) hl hlc hc hq (new_blk w1 _)).mono ?_
          rintro e w2 ⟨dv, rfl, hg2, ho2, hgr2⟩
          have hx12 : Ext wr w2 := Ext.then_new hx1 hgr2
          go_wp2
          rw [Exit.noGoto_ret]
          go_ret2
          exact ⟨⟨_, rfl⟩, .inl ⟨xs, by rw [HG.out]; exact HX.out, hJ xs wr w2 none HJx.out (hx12.grown none) (fun r e => by cases e)⟩⟩
      · have HG : Hid (walkR l = (done, (headR l p done.length last).2.2.1, (headR l p done.length last).2.2.2)) := by
          exact (by have := HM.out; unfold Mid at this; rw [HW.out, this, wg_head hlt h1, List.append_nil] : walkR l = (done, (headR l p done.length last).2.2.1, (headR l p done.length last).2.2.2))
        have h1' : ((((headR l p done.length last).2.2.2 : Nat) : Int) == 0) = false := by simp; exact h1
        clear h1 HM
        refine wpIn_wide.2 ?_
        go_wp2_with fail
        refine (head_any A c l p done.length last _ hr (by omega) hp hd64).mono ?_
        rintro e w1 ⟨rfl, hx1⟩
        unfold headV
        go_wp2
        rw [Exit.noGoto_ret]
        go_ret2
        have hx2 := hx1.alloc (.cells #[.int .i64 (headR l p done.length last).1, .int .i64 (headR l p done.length last).2.1, .int .u64 0, .slice none 0 0] 60 (0, 0))
        exact ⟨⟨_, rfl⟩, .inl ⟨xs, by rw [HG.out]; exact HX.out, hJ xs wr _ none HJx.out (hx2.grown none) (fun r e => by cases e)⟩⟩
    · have HG : Hid (walkR l = (done, 0, 0)) := by
        exact (by have := HM.out; unfold Mid at this; rw [HW.out, this, wg_end hlt, List.append_nil] : walkR l = (done, 0, 0))
      clear HM
      refine wpIn_wide.2 ?_
      go_wp2
      rw [Exit.noGoto_ret]
      go_ret2
      exact ⟨⟨_, rfl⟩, .inl ⟨xs, by rw [HG.out]; exact HX.out, HJx.out⟩⟩
/-- What the whole of a range leaves, and a part. -/
def AllCome (l : Bytes) (xs : List Item) : Prop := xs.map (fun x => (x.1, x.2.1)) = (walkR l).1
theorem OB.isB {w : World} {base : Nat} {v : Value} {l : List UInt8} (h : OB w base v l) (k : Nat) (hk : v.ownBlock = some k) : IsB w k := by
  rcases h.2 with ⟨rfl, _⟩ | ⟨g, cap, cur, rfl, _, hh, _⟩
  · cases hk
  · simp [Value.ownBlock] at hk
    subst hk
    exact ⟨cur, (0, 0), hh⟩
set_option maxRecDepth 100000 in
set_option maxHeartbeats 1600000 in
theorem fields1_seq (n Bs : Nat) (A : Option Addr) (c : Nat) (l : Bytes) (w : World) (h : RB w A l) (hlc : l.length ≤ c) (hc : c ≤ 9223372036854775807) (hl : l.length ≤ 4194304) (hBs : w.cell? ⟨Bs, 0, none⟩ = some (.slice A l.length c)) :
    SeqStopsK Fence.wide n Tryz.prog 122 #[.pointer (some ⟨Bs, 0, none⟩)] itemV KpB (AllCome l) (fun _ => True) 64 w := fun lp J Jx W hW hJ hJx hY h0 => by
  have hR := h.ext hW
  have hc1 := Ext.cell hW hBs
  have HJ := Lib.hid h0
  clear h0
  refine callsIn_wide.2 ?_
  go_enter Tryz.func122, Tryz.ntmps122
  go_wp2_with (at_builtin; go_must (refine wpList_appB (by rfl) (.const (.slice none 0 0)) (.tmp 3) (by rfl) Tryz.underlying22 u8_info (by rfl) (OB.nil W W.heap.size) A c l (by rfl) hR (by simp; omega) (Nat.le_refl _) ?_); intro v1 w1 ho1 hg1 hat1; obtain ⟨A1, c1, rfl, hlc1, hc1', hr1, ha1⟩ := ho1.reads)
  have hx1 := Ext.of_grown hg1
  have hRK : RK w1 A1 ([] ++ l) := ⟨hr1, fun a e => ho1.isB _ (ha1 a e)⟩
  refine (walk_seq n lp J Jx A1 c1 ([] ++ l) w1 hRK (by simpa using hl) hlc1 (Nat.le_trans hc1' (by decide)) ?_ ?_ (hJ [] W w1 none HJ.out hg1 (fun r e => by cases e))).mono ?_
  · exact fun s X X' row hs hg hr => hJ s X X' row hs hg (fun r e => ⟨Nat.le_trans hx1.size (hr r e).1, (hr r e).2⟩)
  · exact fun pre x W1 hp hn => hY pre x W1 hp hn
  · rintro e w2 ⟨⟨v, rfl⟩, h2⟩
    go_wp2
    go_end0
    refine ⟨⟨_, rfl⟩, ?_⟩
    rcases h2 with ⟨xs, h3, h4⟩ | ⟨pre, h4⟩
    · exact .inl ⟨xs, by simpa [AllCome] using h3, h4⟩
    · exact .inr ⟨pre, trivial, h4⟩
set_option maxRecDepth 100000 in
theorem fields_any (A : Option Addr) (c : Nat) (n : Nat) (w : World) :
    Calls Tryz.prog 94 #[.slice A n c] w fun e w' => e = .returned (.func (.func 122) #[] #[.pointer (some ⟨w.heap.size, 0, none⟩)]) ∧ w' = w.alloc (.cells #[.slice A n c] 22 (0, 0)) := by
  go_enter Tryz.func94, Tryz.ntmps94
  go_wp2
  go_ret
  exact ⟨rfl, rfl⟩
end Go.Proofs.YtehfoddnlecmjaaGreatDoor
