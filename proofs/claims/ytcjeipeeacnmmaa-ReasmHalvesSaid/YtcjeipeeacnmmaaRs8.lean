/-
  Contracts of package reasm: Held, where there is one piece that waits.
-/
import Derived.Test.YtcjeipeeacnmmaaRs7
import Derived.Deep.RegionLaw
namespace Go.Proofs.Ytcjeipeeacnmmaa
open Go.RowKit Go.Deep Go.Maps

theorem Try.infoPair : (Try.prog.info? 71).map (fun i => (i.zero, i.size, i.bytes)) = some (some (.agg #[.int .u32 0, .int .u32 0]), 2, 8) := by kernel_rfl
theorem Try.underHeld : Try.prog.underlying 69 = some (.slice 71) := by kernel_rfl

/-- What the closure of Held keeps, where there is one piece. -/
structure Holds1 (n0 p m x y a b : Nat) (B : RB) (d : List (Nat × Nat)) (w : World) : Prop where
  buf : IsBuf w p m B
  x0 : w.heap[x]? = some (.cells #[.pointer (some ⟨p, 0, none⟩)] 25 (0, 0))
  row : (d = [] ∧ w.heap[y]? = some (.cells #[.slice none 0 0] 69 (0, 0))) ∨
    (d = [(a, b)] ∧ ∃ g cap, w.heap[y]? = some (.cells #[.slice (some ⟨g, 0, none⟩) 1 cap] 69 (0, 0)) ∧ n0 ≤ g ∧ w.cell? ⟨g, 0, none⟩ = some (.int .u32 (bufAt B a)) ∧ w.cell? ⟨g, 1, none⟩ = some (.int .u32 (bufAt B b)))
  yp : y ≠ p
  ym : y ≠ m
  yx : y ≠ x
  yn : y < n0
  nw : n0 ≤ w.heap.size

theorem held1_end {n0 p m x y a b : Nat} {B : RB} {w w1 : World} {gg cap : Nat} (h : Holds1 n0 p m x y a b B [] w) (hy0 : w.heap[y]? = some (.cells #[.slice none 0 0] 69 (0, 0)))
    (hown : w1.ownsRow w.heap.size 71 2 (.slice (some ⟨gg, 0, none⟩) (0 + 1) cap) (0 + 1) ([] ++ [.int .u32 (bufAt B a), .int .u32 (bufAt B b)]))
    (hgrow : (w.alloc (.cells #[.int .u32 (bufAt B a), .int .u32 (bufAt B b)] 71)).drew.grownBy w1 Option.none) (hg : gg = w.heap.size + 1) :
    Holds1 n0 p m x y a b B [(a, b)] (w1.setCell ⟨y, 0, none⟩ (.slice (some ⟨gg, 0, none⟩) 1 cap)) ∧ Upd [y] w (w1.setCell ⟨y, 0, none⟩ (.slice (some ⟨gg, 0, none⟩) 1 cap)) := by
  have hu : Upd [] w w1 := ((Upd.refl [] w).alloc _).drew.trans' (Upd.of_grown_none hgrow)
  have hylt : y < w.heap.size := (Array.getElem?_eq_some_iff.1 hy0).1
  have hc0 := hown.cellAt 0 (by omega)
  have hc1 := hown.cellAt 1 (by omega)
  have hgy : gg ≠ y := by omega
  refine ⟨⟨?_, ?_, .inr ⟨rfl, gg, cap, ?_, ?_, ?_, ?_⟩, h.yp, h.ym, h.yx, h.yn, ?_⟩, (hu.nil _).setCell (.inl (by simp)) _⟩
  · exact (h.buf.upd hu (by simp) (by simp)).upd ((Upd.refl [y] w1).setCell (.inl (by simp)) _) (by simpa using Ne.symm h.yp) (by simpa using Ne.symm h.ym)
  · exact (blk_setCell_ne (Ne.symm h.yx) _).trans ((hu.block _ (Array.getElem?_eq_some_iff.1 h.x0).1 (by simp)).trans h.x0)
  · rw [blk_setCell ((hu.block _ hylt (by simp)).trans hy0) 0]
    rfl
  · have := h.nw; omega
  · exact (World.cell?_of_block (blk_setCell_ne hgy _)).trans hc0
  · exact (World.cell?_of_block (blk_setCell_ne hgy _)).trans hc1
  · have h1 := h.nw
    have h2 := hu.size
    simpa [World.setCell] using Nat.le_trans h1 h2

set_option maxRecDepth 100000 in
set_option maxHeartbeats 12800000 in
theorem held1_any {n0 p m x y a b : Nat} {B : RB} {w : World} (h : Holds1 n0 p m x y a b B [] w) (ht : B.taken < a) :
    Calls Try.prog 44 #[.int .i64 (a : Int), .int .i64 (b : Int), .pointer (some ⟨x, 0, none⟩), .pointer (some ⟨y, 0, none⟩)] w fun e w' => e = .returned (.tuple #[]) ∧
      Holds1 n0 p m x y a b B [(a, b)] w' ∧ Upd [y] w w' := by
  obtain ⟨i0, hi0, hz0, hz1, hz2⟩ := info_parts Try.infoPair
  have hy0 : w.heap[y]? = some (.cells #[.slice none 0 0] 69 (0, 0)) := by
    rcases h.row with h | ⟨h, _⟩
    · exact h.2
    · cases h
  have c1 := h.buf.c1
  have cx : w.cell? ⟨x, 0, none⟩ = some (.pointer (some ⟨p, 0, none⟩)) := (cell_of_blk h.x0 0).trans rfl
  have cy : w.cell? ⟨y, 0, none⟩ = some (.slice none 0 0) := (cell_of_blk hy0 0).trans rfl
  have fy := frozen_of_blk hy0 0
  have hxlt : x < w.heap.size := (Array.getElem?_eq_some_iff.1 h.x0).1
  have hylt : y < w.heap.size := (Array.getElem?_eq_some_iff.1 hy0).1
  have H := Lib.hid h
  have HY := Lib.hid hy0
  clear h hy0
  go_enter Try.func44, Try.ntmps44
  go_wp2_with fail
  go_region_law
    (first
      | (go_simp; go_at_call 26; refine (at_any (w := w.drew) (show IsBuf w.drew p m B from H.out.buf.drewN 1) _).mono ?_; rintro e w' ⟨rfl, rfl⟩)
      | (refine step_append_lies _ (by rfl) _ _ _ (by rfl) w.heap.size 71 i0 _ 2 8 Try.underHeld hi0 hz0 hz1 hz2 rfl (by omega) (.slice none 0 0) 0 [] (by rfl) (World.ownsRow_nil _ _ _ _)
            ⟨w.heap.size, 0, none⟩ 1 1 [.int .u32 (bufAt B a), .int .u32 (bufAt B b)] (by rfl) (by rfl) (World.news_of_block (cs := #[.int .u32 (bufAt B a), .int .u32 (bufAt B b)]) (t := 71) (fr := (0, 0)) (block_new w _)) (by simp [Value.oneCell'])
            (by omega) (by decide) (by omega) (by simp) (w.heap.size + 1) (by simp) ?_; intro gg cap w1 hown1 hgrow hat hlt; have d1 : w1.cell? ⟨y, 0, none⟩ = some (.slice none 0 0) := (hgrow.cell_far ⟨y, 0, none⟩ (by simp; omega) (by simp [Value.ownBlock])).trans ((World.cell?_of_block (Below.heap_alloc w _ _ hylt)).trans cy); have d2 : w1.frozen? ⟨y, 0, none⟩ = false := (hgrow.frozen_far ⟨y, 0, none⟩ (by simp; omega) (by simp [Value.ownBlock])).trans ((World.frozen?_of_block (Below.heap_alloc w _ _ hylt)).trans fy)))
  all_goals
    go_wp2
    go_end0
    exact ⟨rfl, held1_end H.out HY.out hown1 hgrow (by simpa [Value.ownBlock] using hat)⟩
end Go.Proofs.Ytcjeipeeacnmmaa
