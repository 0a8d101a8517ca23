/- The contracts of package wire: a field behind bytes. -/
import Derived.Test.YtehfoddnlecmjaaGreatDoorWire2
set_option linter.unusedVariables false
set_option linter.unusedSimpArgs false
namespace Go.Proofs.YtehfoddnlecmjaaGreatDoor
open Go.RowKit

theorem at_trans {w w1 : World} {v v1 v2 : Value} (hs : w.heap.size ≤ w1.heap.size) (h1 : v1.ownBlock = v.ownBlock ∨ ∃ k, v1.ownBlock = some k ∧ w.heap.size ≤ k) (h2 : v2.ownBlock = v1.ownBlock ∨ ∃ k, v2.ownBlock = some k ∧ w1.heap.size ≤ k) :
    v2.ownBlock = v.ownBlock ∨ ∃ k, v2.ownBlock = some k ∧ w.heap.size ≤ k := by
  rcases h2 with h2 | ⟨k, h2, hk⟩
  · rw [h2]; exact h1
  · exact .inr ⟨k, h2, by omega⟩
theorem grown_at {w w1 w2 : World} {v v1 : Value} (hg : w.grownBy w1 v.ownBlock) (h1 : v1.ownBlock = v.ownBlock ∨ ∃ k, v1.ownBlock = some k ∧ w.heap.size ≤ k) (hg2 : w1.grownBy w2 v1.ownBlock) : w.grownBy w2 v.ownBlock :=
  grown_then hg hg2 (fun j hj => by
    rcases h1 with h | ⟨k, h, hk⟩
    · exact .inl (h ▸ hj)
    · rw [h] at hj; cases hj; exact .inr hk)
/-! The same at whatever number stands at the call. -/
theorem size_i (n : Int) (w : World) (h0 : 0 ≤ n) (hn : n < 18446744073709551616) : Calls Tryz.prog 52 #[.int .u64 n] w fun e w' => e = .returned (.int .i64 (vsize n.toNat : Nat)) ∧ w = w' := by
  obtain ⟨m, rfl⟩ := Int.eq_ofNat_of_zero_le h0
  rw [Int.toNat_natCast]
  exact size_any m w (by omega)
theorem number_i (A : Option Addr) (c : Nat) (l : Bytes) (p : Int) (w : World) (h : RB w A l) (hl : l.length ≤ 4611686018427387904) (h0 : 0 ≤ p) (hp : p ≤ l.length) :
    Calls Tryz.prog 88 #[.slice A l.length c, .int .i64 p] w fun e w' => e = .returned (.tuple #[.int .u64 (num l p.toNat).1, .int .i64 (num l p.toNat).2.1, .int .i64 (num l p.toNat).2.2]) ∧ w = w' := by
  obtain ⟨m, rfl⟩ := Int.eq_ofNat_of_zero_le h0
  rw [Int.toNat_natCast]
  exact number_any A c l m w h hl (by omega)
theorem add_i (base : Nat) (v : Value) (l : Bytes) (n : Int) (w : World) (hv : OB w base v l) (hb : base ≤ w.heap.size) (hl : l.length ≤ 1099511627776) (h0 : 0 ≤ n) (hn : n < 18446744073709551616) :
    Calls Tryz.prog 50 #[v, .int .u64 n] w fun e w' => ∃ v', e = .returned v' ∧ OB w' base v' (l ++ vint n.toNat) ∧ w.grownBy w' v.ownBlock ∧ (v'.ownBlock = v.ownBlock ∨ ∃ k, v'.ownBlock = some k ∧ w.heap.size ≤ k) := by
  obtain ⟨m, rfl⟩ := Int.eq_ofNat_of_zero_le h0
  rw [Int.toNat_natCast]
  exact add_any base v l m w hv hb hl (by omega)
theorem fixed_i (base : Nat) (v : Value) (l : Bytes) (n k : Int) (w : World) (hv : OB w base v l) (hb : base ≤ w.heap.size) (hl : l.length ≤ 1099511627776) (h0 : 0 ≤ n) (hn : n < 18446744073709551616) (hk0 : 0 ≤ k) (hk : k ≤ 8) :
    Calls Tryz.prog 130 #[v, .int .u64 n, .int .i64 k] w fun e w' => ∃ v', e = .returned v' ∧ OB w' base v' (l ++ low k.toNat n.toNat) ∧ w.grownBy w' v.ownBlock ∧ (v'.ownBlock = v.ownBlock ∨ ∃ k, v'.ownBlock = some k ∧ w.heap.size ≤ k) := by
  obtain ⟨m, rfl⟩ := Int.eq_ofNat_of_zero_le h0
  obtain ⟨j, rfl⟩ := Int.eq_ofNat_of_zero_le hk0
  rw [Int.toNat_natCast, Int.toNat_natCast]
  exact fixed_any base v l m j w hv hb hl (by omega) (by omega)
theorem at_ne {w : World} {k : Nat} {v v' : Value} (hk : k < w.heap.size) (h : some k ≠ v.ownBlock) (hat : v'.ownBlock = v.ownBlock ∨ ∃ j, v'.ownBlock = some j ∧ w.heap.size ≤ j) : some k ≠ v'.ownBlock := by
  rcases hat with h1 | ⟨j, h1, h2⟩
  · rw [h1]; exact h
  · rw [h1]; intro e; injection e with e; omega
theorem RB.grown_add {w w1 w2 : World} {A : Option Addr} {data l : Bytes} {base : Nat} {v : Value} (h : RB w A data) (hg : w1.grownBy w2 v.ownBlock) (hA : ∀ a, A = some a → a.block < base) (ho : OB w base v l) (e : w1.heap = w.heap) : RB w2 A data :=
  (show RB w1 A data from by
    rcases h with h | ⟨b, o, h1, h2⟩
    · exact .inl h
    · exact .inr ⟨b, o, h1, fun i hi => by have := h2 i hi; simpa [World.cell?, e] using this⟩).grown hg (fun a ha k => by have := hA a ha; have := ho.ge _ k.symm; omega)
set_option maxRecDepth 100000 in
set_option maxHeartbeats 1600000 in
theorem behind_any (base : Nat) (v : Value) (l : Bytes) (f : Fld) (A : Option Addr) (c : Nat) (w : World) (hv : OB w base v l) (hb : base ≤ w.heap.size) (hl : l.length ≤ 549755813888)
    (h1 : f.no < 4294967296) (h2 : f.ty = 0 ∨ f.ty = 1 ∨ f.ty = 2 ∨ f.ty = 5) (h3 : f.num < 18446744073709551616) (h4 : f.data.length ≤ 4194304) (hd : RB w A f.data) (hA : ∀ a, A = some a → a.block < base) :
    Calls Tryz.prog 103 #[v, fldV f A c] w fun e w' => ∃ v', e = .returned v' ∧ OB w' base v' (l ++ fldB f) ∧ w.grownBy w' v.ownBlock ∧ (v'.ownBlock = v.ownBlock ∨ ∃ k, v'.ownBlock = some k ∧ w.heap.size ≤ k) := by
  have hof := of_any f A c (w.alloc (.cells #[.int .i64 f.no, .int .i64 f.ty, .int .u64 f.num, .slice A f.data.length c] 60)) h1 (by omega)
  have HOF := Lib.hid hof
  clear hof
  obtain ⟨no, ty, num, data⟩ := f
  simp only [fldV, fldB] at *
  have hvl : (vint (8 * no + ty)).length ≤ 10 := vsize_le10 (by omega)
  have hx0 : Ext w (w.alloc (.cells #[.int .i64 no, .int .i64 ty, .int .u64 num, .slice A data.length c] 60)) := (Ext.refl w).alloc _
  have key : ∀ (w1 w2 : World) (v2 : Value), Ext (w.alloc (.cells #[.int .i64 no, .int .i64 ty, .int .u64 num, .slice A data.length c] 60)) w1 → w1.grownBy w2 v.ownBlock → (v2.ownBlock = v.ownBlock ∨ ∃ k, v2.ownBlock = some k ∧ w1.heap.size ≤ k) →
      w2.heap[w.heap.size]? = some (.cells #[.int .i64 no, .int .i64 ty, .int .u64 num, .slice A data.length c] 60 (0, 0)) ∧ w.grownBy w2 v.ownBlock ∧ w.heap.size + 1 ≤ w1.heap.size ∧ w1.heap.size ≤ w2.heap.size ∧ (v2.ownBlock = v.ownBlock ∨ ∃ k, v2.ownBlock = some k ∧ w.heap.size + 1 ≤ k) := by
    intro w1 w2 v2 hx1 hg2 hat2
    have hs1 : w.heap.size + 1 ≤ w1.heap.size := by simpa using hx1.size
    refine ⟨?_, grown_trans ((hx0.trans hx1).grown _) hg2, hs1, hg2.size, ?_⟩
    · rw [hg2.block _ (by omega) (fun e => by have := hv.lt _ e.symm; omega)]
      exact hx1.heap (MapKept.heap_alloc w _).1
    · rcases hat2 with h | ⟨k, h, hk⟩
      · exact .inl h
      · exact .inr ⟨k, h, by omega⟩
  have KEY := Lib.hid key
  clear key
  rcases h2 with rfl | rfl | rfl | rfl
  · go_enter Tryz.func103, Tryz.ntmps103
    go_wp2_with fail
    refine HOF.out.mono ?_
    rintro e w1 ⟨rfl, hx1⟩
    go_wp2_with fail
    refine (add_i base v l _ _ ((hv.ext hx0).ext hx1) (Nat.le_trans hb (hx0.trans hx1).size) (by omega) (by omega) (by omega)).mono ?_
    rintro e w2 ⟨v2, rfl, ho2, hg2, hat2⟩
    rw [show (8 * (no : Int)).toNat = 8 * no + 0 by omega] at ho2
    obtain ⟨k1, k2, k3, k4, k5⟩ := KEY.out w1 w2 v2 hx1 hg2 hat2
    have k6 : v2.ownBlock = v.ownBlock ∨ ∃ k, v2.ownBlock = some k ∧ w.heap.size ≤ k := by
      rcases k5 with h | ⟨k, h, hk⟩
      · exact .inl h
      · exact .inr ⟨k, h, by omega⟩
    have c0 := cell_of_row w2 w.heap.size 1 _ _ _ k1
    have c1 := cell_of_row w2 w.heap.size 2 _ _ _ k1
    have c2 := cell_of_row w2 w.heap.size 3 _ _ _ k1
    simp at c0 c1 c2
    go_wp2_with fail
    refine (add_i base v2 _ _ _ ho2 (by omega) (by simp at hvl ⊢; omega) (by omega) (by omega)).mono ?_
    rintro e w3 ⟨v3, rfl, ho3, hg3, hat3⟩
    go_wp2
    go_ret
    refine ⟨v3, rfl, ?_, grown_at k2 k6 hg3, at_trans (by omega) k6 hat3⟩
    simpa [List.append_assoc] using ho3
  · go_enter Tryz.func103, Tryz.ntmps103
    go_wp2_with fail
    refine HOF.out.mono ?_
    rintro e w1 ⟨rfl, hx1⟩
    go_wp2_with fail
    refine (add_i base v l _ _ ((hv.ext hx0).ext hx1) (Nat.le_trans hb (hx0.trans hx1).size) (by omega) (by omega) (by omega)).mono ?_
    rintro e w2 ⟨v2, rfl, ho2, hg2, hat2⟩
    rw [show (8 * (no : Int) + 1).toNat = 8 * no + 1 by omega] at ho2
    obtain ⟨k1, k2, k3, k4, k5⟩ := KEY.out w1 w2 v2 hx1 hg2 hat2
    have k6 : v2.ownBlock = v.ownBlock ∨ ∃ k, v2.ownBlock = some k ∧ w.heap.size ≤ k := by
      rcases k5 with h | ⟨k, h, hk⟩
      · exact .inl h
      · exact .inr ⟨k, h, by omega⟩
    have c0 := cell_of_row w2 w.heap.size 1 _ _ _ k1
    have c1 := cell_of_row w2 w.heap.size 2 _ _ _ k1
    have c2 := cell_of_row w2 w.heap.size 3 _ _ _ k1
    simp at c0 c1 c2
    go_wp2_with fail
    refine (fixed_i base v2 _ _ _ _ ho2 (by omega) (by simp at hvl ⊢; omega) (by omega) (by omega) (by omega) (by omega)).mono ?_
    rintro e w3 ⟨v3, rfl, ho3, hg3, hat3⟩
    go_wp2
    go_ret
    refine ⟨v3, rfl, ?_, grown_at k2 k6 hg3, at_trans (by omega) k6 hat3⟩
    simpa [List.append_assoc] using ho3
  · go_enter Tryz.func103, Tryz.ntmps103
    go_wp2_with fail
    refine HOF.out.mono ?_
    rintro e w1 ⟨rfl, hx1⟩
    go_wp2_with fail
    refine (add_i base v l _ _ ((hv.ext hx0).ext hx1) (Nat.le_trans hb (hx0.trans hx1).size) (by omega) (by omega) (by omega)).mono ?_
    rintro e w2 ⟨v2, rfl, ho2, hg2, hat2⟩
    rw [show (8 * (no : Int) + 2).toNat = 8 * no + 2 by omega] at ho2
    obtain ⟨k1, k2, k3, k4, k5⟩ := KEY.out w1 w2 v2 hx1 hg2 hat2
    have k6 : v2.ownBlock = v.ownBlock ∨ ∃ k, v2.ownBlock = some k ∧ w.heap.size ≤ k := by
      rcases k5 with h | ⟨k, h, hk⟩
      · exact .inl h
      · exact .inr ⟨k, h, by omega⟩
    have c0 := cell_of_row w2 w.heap.size 1 _ _ _ k1
    have c1 := cell_of_row w2 w.heap.size 2 _ _ _ k1
    have c2 := cell_of_row w2 w.heap.size 3 _ _ _ k1
    simp at c0 c1 c2
    have kne : some w.heap.size ≠ v2.ownBlock := by
      rcases k5 with h | ⟨k, h, hk⟩
      · rw [h]; exact fun e => by have := hv.lt _ e.symm; omega
      · rw [h]; exact fun e => by injection e with e; omega
    have hl2 : (l ++ vint (8 * no + 2)).length ≤ 549755813898 := by simp at hvl ⊢; omega
    have hdv : (vint data.length).length ≤ 10 := vsize_le10 (by omega)
    have hlt2 : w.heap.size < w2.heap.size := by omega
    have hd2 : RB w2 A data := (hd.ext (hx0.trans hx1)).grown hg2 (fun a ha e => by have := hA a ha; have := hv.ge _ e.symm; omega)
    have hn0 : (0 : Int) ≤ (data.length : Int) := by omega
    have hn1 : (data.length : Int) < 18446744073709551616 := by omega
    have hl2' : (l ++ vint (8 * no + 2)).length ≤ 1099511627776 := by omega
    have hb2 : base ≤ w2.drew.heap.size := by show base ≤ w2.heap.size; omega
    have hl2d : (l ++ vint (8 * no + 2) ++ vint data.length).length + data.length ≤ 140737488355328 := by rw [List.length_append]; omega
    have HDL : Hid (data.length = ((data.length : Nat) : Int).toNat) := by exact (by rw [Int.toNat_natCast] : data.length = ((data.length : Nat) : Int).toNat)
    have HWL : Hid (IntKind.u64.wrap (data.length : Int) = (data.length : Int)) := by exact (by rw [IntKind.wrap_u64]; omega : IntKind.u64.wrap (data.length : Int) = (data.length : Int))
    go_wp2_with fail
    go_region_held3 (fun w' => w'.cell? ⟨w.heap.size, 3, none⟩ = some (.slice A data.length c))
      (first
        | go_keep
        | (exact hg3.cell c2 kne)
        | (exact hg4.cell (hg3.cell c2 kne) kne3))
      (first
        | (go_at_call 50; rw [HWL.out]; refine (add_i base v2 _ (data.length : Int) w2.drew ho2 hb2 hl2' hn0 hn1).mono ?_; rintro e w3 ⟨v3, rfl, ho3, hg3, hat3⟩; have hat3' : v3.ownBlock = v2.ownBlock ∨ ∃ j, v3.ownBlock = some j ∧ w2.heap.size ≤ j := hat3; have hd3 := RB.grown_add hd2 hg3 hA ho2 rfl; rw [Int.toNat_natCast] at ho3; have hl3 := hl2d; have kne3 := at_ne hlt2 kne hat3'; have hb3 := Nat.le_trans hb2 hg3.size)
        | (refine step_appB (by rfl) (.tmp 34) (.tmp 36) (by rfl) Tryz.underlying22 u8_info (by rfl) ho3 A c data (by rfl) hd3 hl3 hb3 ?_; intro v4 w4 ho4 hg4 hat4))
    clear hn1 hl2' hl2d hl3 hn0 h3
    go_wp2
    go_ret
    have hg3' : w2.grownBy w3 v2.ownBlock := ⟨hg3.os, hg3.tape, hg3.output, hg3.size, hg3.block⟩
    refine ⟨v4, rfl, ?_, ?_, ?_⟩
    · simpa [List.append_assoc] using ho4
    · exact grown_at (grown_at k2 k6 hg3') (at_trans (by omega) k6 hat3') hg4
    · exact at_trans (by have h5 : w2.heap.size ≤ w3.heap.size := hg3'.size; omega) (at_trans (by omega) k6 hat3') hat4
  · go_enter Tryz.func103, Tryz.ntmps103
    go_wp2_with fail
    refine HOF.out.mono ?_
    rintro e w1 ⟨rfl, hx1⟩
    go_wp2_with fail
    refine (add_i base v l _ _ ((hv.ext hx0).ext hx1) (Nat.le_trans hb (hx0.trans hx1).size) (by omega) (by omega) (by omega)).mono ?_
    rintro e w2 ⟨v2, rfl, ho2, hg2, hat2⟩
    rw [show (8 * (no : Int) + 5).toNat = 8 * no + 5 by omega] at ho2
    obtain ⟨k1, k2, k3, k4, k5⟩ := KEY.out w1 w2 v2 hx1 hg2 hat2
    have k6 : v2.ownBlock = v.ownBlock ∨ ∃ k, v2.ownBlock = some k ∧ w.heap.size ≤ k := by
      rcases k5 with h | ⟨k, h, hk⟩
      · exact .inl h
      · exact .inr ⟨k, h, by omega⟩
    have c0 := cell_of_row w2 w.heap.size 1 _ _ _ k1
    have c1 := cell_of_row w2 w.heap.size 2 _ _ _ k1
    have c2 := cell_of_row w2 w.heap.size 3 _ _ _ k1
    simp at c0 c1 c2
    go_wp2_with fail
    refine (fixed_i base v2 _ _ _ _ ho2 (by omega) (by simp at hvl ⊢; omega) (by omega) (by omega) (by omega) (by omega)).mono ?_
    rintro e w3 ⟨v3, rfl, ho3, hg3, hat3⟩
    go_wp2
    go_ret
    refine ⟨v3, rfl, ?_, grown_at k2 k6 hg3, at_trans (by omega) k6 hat3⟩
    simpa [List.append_assoc] using ho3
end Go.Proofs.YtehfoddnlecmjaaGreatDoor
