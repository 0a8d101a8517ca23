/- The contracts of package schema: a schema that can be. -/
import Derived.Test.YtehfoddnlecmjaaGreatDoorSch2
set_option linter.unusedVariables false
set_option linter.unusedSimpArgs false
namespace Go.Proofs.YtehfoddnlecmjaaGreatDoor
open Go.RowKit

def lastS (ss : List Sl) (j : Nat) : Nat := if j = 0 then 0 else (ss[j - 1]?.map (·.no)).getD 0
theorem lastS_succ {ss : List Sl} {j : Nat} (h : j < ss.length) : lastS ss (j + 1) = ss[j].no := by simp [lastS, h]
def rises (ss : List Sl) : Prop := ∀ j (h : j < ss.length), lastS ss j < ss[j].no
theorem blk5 {w : World} {k : Nat} {a b c d e : Value} {t : TypeId} (h : w.heap[k]? = some (.cells #[a, b, c, d, e] t (0, 0))) :
    w.cell? ⟨k, 0, none⟩ = some a ∧ w.cell? ⟨k, 1, none⟩ = some b ∧ w.cell? ⟨k, 2, none⟩ = some c ∧ w.cell? ⟨k, 3, none⟩ = some d ∧ w.cell? ⟨k, 4, none⟩ = some e ∧ w.frozen? ⟨k, 0, none⟩ = false ∧ w.frozen? ⟨k, 1, none⟩ = false ∧ w.frozen? ⟨k, 2, none⟩ = false ∧ w.frozen? ⟨k, 3, none⟩ = false ∧ w.frozen? ⟨k, 4, none⟩ = false :=
  ⟨blk_cell h 0, blk_cell h 1, blk_cell h 2, blk_cell h 3, blk_cell h 4, blk_frozen h 0, blk_frozen h 1, blk_frozen h 2, blk_frozen h 3, blk_frozen h 4⟩
theorem set_heap {w : World} {g k o : Nat} {v : Value} {x : Obj} (h : w.heap[k]? = some x) (hne : g ≠ k) : (w.setCell ⟨g, o, none⟩ v).heap[k]? = some x := ((grown_store w g o v).block k (lt_of_heap h) (by simpa using Ne.symm hne)).trans h
/-- A schema without schemas within. -/
def okS (ss : List Sl) : Prop := goods ss ∧ rises ss ∧ ss.length ≤ 16
def CanPost (g k : Nat) (w : World) (e : Ending) (w' : World) : Prop := e = .returned (.bool true) ∧ w'.heap[g]? = some (.cells #[.int .i64 k] 3 (0, 0)) ∧ w.grownBy w' (some g)
set_option maxRecDepth 100000 in
set_option maxHeartbeats 1600000 in
theorem canBe_flat (A : Option Addr) (c : Nat) (ss : List Sl) (d g k : Nat) (w : World) (h : SRd w A ss) (hA : ∀ a, A = some a → a.block ≠ g) (hg : okS ss) (hd : d ≤ 6) (hk : k + ss.length ≤ 256) (hgc : w.heap[g]? = some (.cells #[.int .i64 k] 3 (0, 0))) :
    Calls Tryz.prog 90 #[.slice A ss.length c, .int .i64 d, .pointer (some ⟨g, 0, none⟩)] w (CanPost g (k + ss.length) w) := by
  obtain ⟨hg1, hg2, hg3⟩ := hg
  have HR := Lib.hid h
  have HG := Lib.hid hg1
  have HG2 := Lib.hid hg2
  clear h hg1 hg2
  go_enter Tryz.func90, Tryz.ntmps90
  go_wp2
  go_loopw [7, 19] (fun a i wr => ∃ j : Nat, j ≤ ss.length ∧ a = .int .i64 (lastS ss j) ∧ i = .int .i64 j ∧ wr.heap[g]? = some (.cells #[.int .i64 ((k + j : Nat) : Int)] 3 (0, 0)) ∧ w.grownBy wr (some g)) (fun _ i _ => ss.length - (intOf i).toNat)
  case atStart => exact ⟨0, by omega, rfl, rfl, hgc, World.grownBy.refl _ _⟩
  case round =>
    obtain ⟨j, hj, rfl, rfl, hgr, hgrow⟩ := hrel
    by_cases hlt : j < ss.length
    · rcases HR.out with h | ⟨b, o, rfl, hc⟩
      · subst h; simp at hlt
      · obtain ⟨c0, c1, c2, c3, c4⟩ := hc j hlt
        have hne : b ≠ g := hA _ rfl
        replace c0 := hgrow.cell c0 (by simpa using hne)
        replace c1 := hgrow.cell c1 (by simpa using hne)
        replace c2 := hgrow.cell c2 (by simpa using hne)
        replace c3 := hgrow.cell c3 (by simpa using hne)
        replace c4 := hgrow.cell c4 (by simpa using hne)
        have hgd := HG.out ss[j] (List.getElem_mem hlt)
        have HGD := Lib.hid hgd
        have hno : ss[j].no ≤ 536870911 := hgd.2.2.2.1
        have hk8 : ss[j].kind < 8 := by have := hgd.2.2.2.2; omega
        have hr := HG2.out j hlt
        have HL := Lib.hid (lastS_succ hlt)
        obtain ⟨m, hm⟩ : ∃ m, m = k + j := ⟨_, rfl⟩
        have HM := Lib.hid hm
        have k0 : m + 1 ≤ 256 := by omega
        rw [← hm] at hgr
        clear hm
        have hgr2 := old_blk hgr (.cells #[.int .i64 ss[j].no, .int .i64 ss[j].kind, .int .u64 ss[j].least, .int .u64 ss[j].most, .slice none 0 0] 101 (0, 0))
        have q1 := cell_of_one hgr2
        have q2 := free_of_one hgr2
        have hnw := set_heap (g := g) (o := 0) (v := .int .i64 ((m : Int) + 1)) (new_blk wr (.cells #[.int .i64 ss[j].no, .int .i64 ss[j].kind, .int .u64 ss[j].least, .int .u64 ss[j].most, .slice none 0 0] 101 (0, 0))) (by have := lt_of_heap hgr; omega)
        obtain ⟨p0, p1, p2, p3, p4, _⟩ := blk5 hnw
        clear hgd hc
        go_wp2_with fail
        refine (bounded_any ss[j] (.slice none 0 0) _ HGD.out).mono ?_
        rintro e w1 ⟨rfl, hx1⟩
        have p1' := hx1.cell p1
        go_wp2_with fail
        refine (nested_any ss[j].kind _ hk8).mono ?_
        rintro e w2 ⟨rfl, rfl⟩
        have p4' := hx1.cell p4
        have p0' := hx1.cell p0
        go_wp2
        refine ⟨⟨j + 1, by omega, by rw [HL.out], by simp, ?_, ?_⟩, by simp [intOf]; omega⟩
        · have : w2.heap[g]? = some (.cells #[.int .i64 ((m : Int) + 1)] 3 (0, 0)) := hx1.heap (one_setCell hgr2)
          rw [this]
          have := HM.out
          simp
          omega
        · exact grown_ext (grown_trans (grown_trans hgrow (((Ext.refl wr).alloc _).grown _)) (grown_store _ g 0 _)) hx1
    · obtain rfl : j = ss.length := by omega
      go_wp2
      go_ret
      exact ⟨rfl, hgr, hgrow⟩
set_option maxRecDepth 100000 in
theorem valid_flat (A : Option Addr) (c : Nat) (ss : List Sl) (w : World) (h : SRd w A ss) (hA : ∀ a, A = some a → a.block < w.heap.size) (hg : okS ss) (hm : (spanS ss ss.length).2 ≤ 4194304) :
    Calls Tryz.prog 71 #[.slice A ss.length c] w fun e w' => e = .returned (.int .i64 0) ∧ Ext w w' := by
  have h1 := h.ext ((Ext.refl w).alloc (.cells #[.int .i64 0] 3 (0, 0)))
  have hl := hg.2.2
  go_enter Tryz.func71, Tryz.ntmps71
  go_wp2_with fail
  refine (canBe_flat A c ss 1 w.heap.size 0 _ h1 (fun a e => by have := hA a e; omega) hg (by omega) (by omega) (new_blk w _)).mono ?_
  rintro e w1 ⟨rfl, _, hgr⟩
  have hx1 : Ext w w1 := Ext.then_new (Ext.refl w) hgr
  go_wp2_with fail
  refine (span_any A c ss _ (h.ext hx1) hg.1 (by omega)).mono ?_
  rintro e w2 ⟨rfl, hx2⟩
  go_wp2
  go_ret
  exact ⟨rfl, hx1.trans hx2⟩
end Go.Proofs.YtehfoddnlecmjaaGreatDoor
