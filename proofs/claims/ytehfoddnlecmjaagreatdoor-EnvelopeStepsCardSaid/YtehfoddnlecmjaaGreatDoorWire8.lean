/- The contracts of package wire: walk, Decode. -/
import Derived.Test.YtehfoddnlecmjaaGreatDoorWire7
import Derived.WalkMore
set_option linter.unusedVariables false
set_option linter.unusedSimpArgs false
namespace Go.Proofs.YtehfoddnlecmjaaGreatDoor
open Go.RowKit

theorem ret_walk {a a' b b' : Int} (h1 : a = a') (h2 : b = b') : Ending.returned (.tuple #[.int .i64 a, .int .i64 b]) = .returned (.tuple #[.int .i64 a', .int .i64 b']) := by rw [h1, h2]
theorem Ext.then_new {a w w' : World} {o : Obj} (h : Ext a w) (hg : (w.alloc o).grownBy w' (some w.heap.size)) : Ext a w' :=
  Below.grown (h.alloc o) hg (h.alloc o).size (fun k e => by injection e with e; have := h.size; omega)
/-- What walk leaves under Decode's closure. -/
def WalkPost (l : Bytes) (base Bx : Nat) (w : World) (e : Ending) (w' : World) : Prop :=
  ∃ xs, e = .returned (.tuple #[.int .i64 (walkR l).2.1, .int .i64 (walkR l).2.2]) ∧ Kept w' base Bx xs ∧ xs.map (·.1) = (walkR l).1.map (·.2) ∧ Below base w w'
theorem RB.below {n : Nat} {w w' : World} {A : Option Addr} {l : List UInt8} (h : RB w A l) (hx : Below n w w') (hA : ∀ a, A = some a → a.block < n) : RB w' A l := by
  rcases h with h | ⟨b, o, e, h⟩
  · exact .inl h
  · exact .inr ⟨b, o, e, fun i hi => (World.cell?_of_block (hx.block b (hA _ e))).trans (h i hi)⟩
theorem head_wrong {f : Fld} {last : Nat} (h : wrong f last = 0) : f.ty = 0 ∨ f.ty = 1 ∨ f.ty = 2 ∨ f.ty = 5 := by
  have := wrong_0 h
  omega
set_option maxRecDepth 100000 in
set_option maxHeartbeats 1600000 in
theorem walk_dec (A : Option Addr) (c : Nat) (l : Bytes) (base Bx : Nat) (w : World) (h : RB w A l) (hA : ∀ a, A = some a → a.block < base) (hl : l.length ≤ 4194304) (hlc : l.length ≤ c) (hc : c ≤ 9223372036854775807) (hb : base ≤ Bx) (hk : Kept w base Bx []) :
    Calls Tryz.prog 48 #[.slice A l.length c, .func (.func 49) #[] #[.pointer (some ⟨Bx, 0, none⟩)]] w (WalkPost l base Bx w) := by
  have HW := Lib.hid (walkR_le hl)
  have hbs : base ≤ w.heap.size := by obtain ⟨v, h1, _⟩ := hk; have := lt_of_heap h1; omega
  have HK := Lib.hid hk
  have HRB := Lib.hid h
  clear hk h
  go_enter Tryz.func48, Tryz.ntmps48
  go_wp2
  go_step3
  go_wp2
  go_step3
  go_wp2
  go_loopw [6, 7, 8] (fun a b i wr => ∃ (done : List (Nat × Fld)) (last p : Nat) (xs : List (Fld × Value)), Hid (Mid l done p last) ∧ a = .int .i64 done.length ∧ b = .int .i64 last ∧ i = .int .i64 p ∧ p ≤ l.length ∧ done.length ≤ 64 ∧ Hid (Kept wr base Bx xs) ∧ Hid (xs.map (·.1) = done.map (·.2)) ∧ Below base w wr) (fun _ _ i _ => l.length - (intOf i).toNat)
  case atStart => exact ⟨[], 0, 0, [], Lib.hid (Mid.nil l), rfl, rfl, rfl, by omega, by simp, HK, Lib.hid rfl, Below.refl _ _⟩
  case round =>
    obtain ⟨done, last, p, xs, HM, rfl, rfl, rfl, hp, hd64, HKx, HX, hB⟩ := hrel
    by_cases hlt : p < l.length
    · have hr := HRB.out.below hB hA
      by_cases h1 : (headR l p done.length last).2.2.2 = 0
      · have k1 := headR_ok hp h1
        have hty := head_wrong k1.2.2.2.2.1
        have k5 := wrong_0 k1.2.2.2.2.1
        by_cases h2 : (valueR l (headR l p done.length last).2.1 (headR l p done.length last).2.2.1).2.2.2 = 0
        · have HS := Lib.hid (HM.out.step hlt h1 h2)
          have k2 := valueR_ok k1.2.1 h2
          have H1 := Lib.hid h1
          have H2 := Lib.hid h2
          have hcnt := k1.2.2.2.1
          have hq := k1.2.1
          have hty' := hty
          simp only at hty'
          have k6 := k2.1
          have k7 := k2.2.1
          have k8 := k1.1
          clear h1 h2 k1 k5 k2 HM
          generalize hN : (headR l p done.length last).1 = no at *
          generalize hT : (headR l p done.length last).2.1 = ty at *
          generalize hQ : (headR l p done.length last).2.2.1 = q at *
          have HN := Lib.hid hN
          have HT := Lib.hid hT
          have HQ := Lib.hid hQ
          clear hN hT hQ
          go_wp2_with fail
          refine (head_any A c l p done.length last _ hr (by omega) hp hd64).mono ?_
          rintro e w1 ⟨rfl, hx1⟩
          unfold headV
          rw [HN.out, HT.out, HQ.out, H1.out]
          go_wp2_with fail
          refine (value_any ty hty A c l q no w1.heap.size _ ((hr.ext hx1).ext ((Ext.refl _).alloc _)) hl hlc hc hq (new_blk w1 _)).mono ?_
          rintro e w2 ⟨dv, rfl, hg2, ho2, hgr2⟩
          rw [H2.out]
          generalize hE : (valueR l ty q).2.2.1 = ed at *
          obtain ⟨A2, c2, rfl, hr2⟩ := ho2.reads
          generalize hDT : (valueR l ty q).2.1 = dt at *
          generalize hNM : (valueR l ty q).1 = nm at *
          obtain ⟨b0, b1, b2, b3, f0, f1, f2, f3⟩ := blk4 (show w2.heap[w1.heap.size]? = some (.cells #[.int .i64 no, .int .i64 ty, .int .u64 nm, .slice A2 dt.length c2] 60 (0, 0)) from hg2)
          have hx12 : Ext wr w2 := Ext.then_new hx1 hgr2
          have HK2 := HKx.out.ext hx12
          have hlt2 := hx1.size
          have hsep : ∀ x ∈ xs, apartV x.2 (.slice A2 dt.length c2) := fun x hx k hk e => by have h1 := HKx.out.lt hx k hk; have h2 := ho2.ge k e; simp at h2; omega
          have hob := ho2.base (b' := base) (by have := hB.size; simp; omega)
          have hx64 : xs.length ≤ 64 := by have := congrArg List.length HX.out; simp at this; omega
          have hnof : ¬ Of w2 Bx w1.heap.size := by
            rintro (e | ⟨v', h3, h4⟩)
            · obtain ⟨v, q1, q2⟩ := HKx.out
              have := lt_of_heap q1
              omega
            · obtain ⟨v, q1, q2⟩ := HKx.out
              have h5 := (hx12.heap q1).symm.trans h3
              simp at h5
              subst h5
              have := (World.ownsRow.lt q2.1 _ h4).2
              omega
          go_wp2_with fail
          refine (decode1_any base Bx xs ⟨no, ty, nm, dt⟩ (.slice A2 dt.length c2) p w2 HK2 hob hsep hb hx64).mono ?_
          rintro e w3 ⟨rfl, hk3, hG3⟩
          have c0 := hG3.cell b0 hnof
          go_wp2
          go_region
          go_wp2
          have hB3 : Below base w w3 := hG3.below (Below.trans hB (Below.mono hx12 (Nat.le_trans hbs hB.size))) (by have := hB.size; have := hx12.size; omega) (fun k hk => (HK2.of hb k hk).1)
          refine ⟨⟨done ++ [(p, ⟨no, ty, nm, dt⟩)], no, ed, _, HS, ?_, rfl, rfl, k7, ?_, Lib.hid (hk3.ext (Ext.drew (Ext.refl _))), ?_, hB3.drew⟩, ?_⟩
          · simp
          · simp; omega
          · exact Lib.hid (by simp [HX.out])
          · simp [intOf]; omega
        · have HG : Hid (walkR l = (done, (headR l p done.length last).2.2.1, (valueR l (headR l p done.length last).2.1 (headR l p done.length last).2.2.1).2.2.2)) := by
            exact (by have := HM.out; unfold Mid at this; rw [HW.out, this, wg_val hlt h1 h2, List.append_nil] : walkR l = (done, (headR l p done.length last).2.2.1, (valueR l (headR l p done.length last).2.1 (headR l p done.length last).2.2.1).2.2.2))
          have H1 := Lib.hid h1
          have h2' : ((((valueR l (headR l p done.length last).2.1 (headR l p done.length last).2.2.1).2.2.2 : Nat) : Int) != 0) = true := by simp; exact h2
          have hq := k1.2.1
          have hty' := hty
          simp only at hty'
          clear h1 h2 k1 k5 HM
          generalize hN : (headR l p done.length last).1 = no at *
          generalize hT : (headR l p done.length last).2.1 = ty at *
          generalize hQ : (headR l p done.length last).2.2.1 = q at *
          have HN := Lib.hid hN
          have HT := Lib.hid hT
          have HQ := Lib.hid hQ
          clear hN hT hQ
          go_wp2_with fail
          refine (head_any A c l p done.length last _ hr (by omega) hp hd64).mono ?_
          rintro e w1 ⟨rfl, hx1⟩
          unfold headV
          rw [HN.out, HT.out, HQ.out, H1.out]
          go_wp2_with fail
          refine (value_any ty hty A c l q no w1.heap.size _ ((hr.ext hx1).ext ((Ext.refl _).alloc _)) hl hlc hc hq (new_blk w1 _)).mono ?_
          rintro e w2 ⟨dv, rfl, hg2, ho2, hgr2⟩
          have hx12 : Ext wr w2 := Ext.then_new hx1 hgr2
          go_wp2
          rw [Exit.noGoto_ret]
          go_ret2
          exact ⟨xs, by rw [HG.out]; rfl, HKx.out.ext hx12, by rw [HG.out]; exact HX.out, Below.trans hB (Below.mono hx12 (Nat.le_trans hbs hB.size))⟩
      · have HE := Lib.hid (HM.out.symm.trans HM.out)
        have HG : Hid (walkR l = (done, (headR l p done.length last).2.2.1, (headR l p done.length last).2.2.2)) := by
          exact (by have := HM.out; unfold Mid at this; rw [HW.out, this, wg_head hlt h1, List.append_nil] : walkR l = (done, (headR l p done.length last).2.2.1, (headR l p done.length last).2.2.2))
        have h1' : ((((headR l p done.length last).2.2.2 : Nat) : Int) == 0) = false := by simp; exact h1
        clear h1 HE HM
        go_wp2_with fail
        refine (head_any A c l p done.length last _ hr (by omega) hp hd64).mono ?_
        rintro e w1 ⟨rfl, hx1⟩
        unfold headV
        go_wp2
        rw [Exit.noGoto_ret]
        go_ret2
        obtain ⟨v, q1, q2⟩ := HKx.out
        have hx2 := hx1.alloc (.cells #[.int .i64 (headR l p done.length last).1, .int .i64 (headR l p done.length last).2.1, .int .u64 0, .slice none 0 0] 60 (0, 0))
        exact ⟨xs, by rw [HG.out]; rfl, ⟨v, hx2.heap q1, q2.ext hx2⟩, by rw [HG.out]; exact HX.out, Below.trans hB (Below.mono hx2 (Nat.le_trans hbs hB.size))⟩
    · have HG : Hid (walkR l = (done, 0, 0)) := by
        exact (by have := HM.out; unfold Mid at this; rw [HW.out, this, wg_end hlt, List.append_nil] : walkR l = (done, 0, 0))
      clear HM
      go_wp2
      rw [Exit.noGoto_ret]
      go_ret2
      obtain ⟨v, q1, q2⟩ := HKx.out
      exact ⟨xs, by rw [HG.out]; rfl, ⟨v, q1, q2⟩, by rw [HG.out]; exact HX.out, hB⟩
set_option maxRecDepth 100000 in
theorem walk_long (A : Option Addr) (c : Nat) (l : Bytes) (g : Value) (w : World) (hl : 4194304 < l.length) (hc : c ≤ 9223372036854775807) :
    Calls Tryz.prog 48 #[.slice A l.length c, g] w fun e w' => e = .returned (.tuple #[.int .i64 0, .int .i64 2]) ∧ w' = w := by
  go_enter Tryz.func48, Tryz.ntmps48
  go_wp2
  go_step3
  go_wp2
  rw [Exit.noGoto_ret]
  go_ret2
  exact ⟨rfl, rfl⟩
/-- What Decode leaves. -/
def DecPost (l : Bytes) (w : World) (e : Ending) (w' : World) : Prop :=
  ∃ v xs, e = .returned (.tuple #[v, .int .i64 (if (walkR l).2.2 = 0 then 0 else (walkR l).2.1), .int .i64 (walkR l).2.2]) ∧ OF w' w.heap.size v xs ∧ xs.map (·.1) = (if (walkR l).2.2 = 0 then (walkR l).1.map (·.2) else []) ∧ Ext w w'
set_option maxRecDepth 100000 in
set_option maxHeartbeats 1600000 in
theorem decode_any (A : Option Addr) (c : Nat) (l : Bytes) (w : World) (h : RB w A l) (hA : ∀ a, A = some a → a.block < w.heap.size) (hlc : l.length ≤ c) (hc : c ≤ 9223372036854775807) :
    Calls Tryz.prog 30 #[.slice A l.length c] w (DecPost l w) := by
  by_cases hl : l.length ≤ 4194304
  · have hk : Kept (w.alloc (.cells #[.slice none 0 0] 55 (0, 0))) w.heap.size w.heap.size [] := ⟨_, new_blk w _, OF.nil _ _⟩
    go_enter Tryz.func30, Tryz.ntmps30
    go_wp2_with fail
    refine (walk_dec A c l w.heap.size w.heap.size _ (h.ext ((Ext.refl _).alloc _)) hA hl hlc hc (Nat.le_refl _) hk).mono ?_
    rintro e w1 ⟨xs, rfl, hk1, hxs, hB1⟩
    obtain ⟨v, q1, q2⟩ := hk1
    have q3 := cell_of_one q1
    have hx1 : Ext w w1 := Below.trans ((Ext.refl w).alloc _) hB1
    by_cases h0 : (walkR l).2.2 = 0
    · have t0 : ((((walkR l).2.2 : Nat) : Int) != 0) = false := by simp; exact h0
      go_wp2
      refine bodyPost_ret (v := .tuple #[v, .int .i64 0, .int .i64 0]) (by simp [results, Tryz.results30, go_sem]) rfl ⟨v, xs, by rw [if_pos h0, h0]; rfl, q2, by rw [if_pos h0]; exact hxs, hx1⟩
    · have t0 : ((((walkR l).2.2 : Nat) : Int) != 0) = true := by simp; exact h0
      go_wp2
      refine bodyPost_ret (v := .tuple #[.slice none 0 0, .int .i64 (walkR l).2.1, .int .i64 (walkR l).2.2]) (by simp [results, Tryz.results30, go_sem]) rfl ⟨.slice none 0 0, [], by rw [if_neg h0], OF.nil _ _, by rw [if_neg h0]; rfl, hx1⟩
  · have e0 : walkR l = ([], 0, 2) := by unfold walkR; rw [if_pos (by omega)]
    have HE := Lib.hid e0
    clear e0
    go_enter Tryz.func30, Tryz.ntmps30
    go_wp2_with fail
    refine (walk_long A c l _ _ (by omega) hc).mono ?_
    rintro e w1 ⟨rfl, rfl⟩
    go_wp2
    refine bodyPost_ret (v := .tuple #[.slice none 0 0, .int .i64 0, .int .i64 2]) (by simp [results, Tryz.results30, go_sem]) rfl ⟨.slice none 0 0, [], by rw [HE.out]; rfl, OF.nil _ _, by rw [HE.out]; rfl, (Ext.refl _).alloc _⟩
end Go.Proofs.YtehfoddnlecmjaaGreatDoor
