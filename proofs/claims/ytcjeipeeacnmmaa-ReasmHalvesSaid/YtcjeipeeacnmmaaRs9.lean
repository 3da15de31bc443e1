/-
  Contracts of package reasm: Held itself, where there is one piece that waits; the reference's Same.
-/
import Derived.Test.YtcjeipeeacnmmaaRs8
namespace Go.Proofs.Ytcjeipeeacnmmaa
open Go.RowKit Go.Deep Go.Maps

theorem prefix_one {d : List (Nat × Nat)} {q r : Nat × Nat} (h : (d ++ [q]) <+: [r]) : d = [] ∧ q = r := by
  obtain ⟨t, ht⟩ := h
  cases d with
  | nil => simp at ht; exact ⟨rfl, ht.1⟩
  | cons x d =>
    have := congrArg List.length ht
    simp at this

theorem does_held1 {n0 p m x y a b : Nat} {B : RB} {w : World} {ks : List Nat} (hr : runsOf ks = [(a, b)]) (ht : B.taken < a) (hy : y < w.heap.size) : Does 44 x y [y] w ks (Holds1 n0 p m x y a b B) where
  low := fun b hb => by simp only [List.mem_singleton] at hb; subst hb; exact hy
  keep := fun d W W' h hu => by
    refine ⟨h.buf.upd hu (by simp) (by simp), (hu.block _ (Array.getElem?_eq_some_iff.1 h.x0).1 (by simp)).trans h.x0, ?_, h.yp, h.ym, h.yx, h.yn, Nat.le_trans h.nw hu.size⟩
    rcases h.row with ⟨hd, hy⟩ | ⟨hd, g, cap, hy, hn, h0, h1⟩
    · exact .inl ⟨hd, (hu.block _ (Array.getElem?_eq_some_iff.1 hy).1 (by simp)).trans hy⟩
    · exact .inr ⟨hd, g, cap, (hu.block _ (Array.getElem?_eq_some_iff.1 hy).1 (by simp)).trans hy, hn, (hu.cell (lt_of_cell h0) (by simp)).trans h0, (hu.cell (lt_of_cell h1) (by simp)).trans h1⟩
  call := fun d a' b' W h hp _ _ _ => by
    rw [hr] at hp
    obtain ⟨rfl, he⟩ := prefix_one hp
    cases he
    exact held1_any h ht

set_option maxRecDepth 100000 in
set_option maxHeartbeats 3200000 in
theorem held_any {w : World} {p m a b : Nat} {B : RB} (h : IsBuf w p m B) (hr : runsOf (keysF B.room B.f) = [(a, b)]) (ht : B.taken < a) :
    Calls Try.prog 28 #[.pointer (some ⟨p, 0, none⟩)] w fun e w' => ∃ g cap, e = .returned (.slice (some ⟨g, 0, none⟩) 1 cap) ∧ w'.cell? ⟨g, 0, none⟩ = some (.int .u32 (bufAt B a)) ∧
      w'.cell? ⟨g, 1, none⟩ = some (.int .u32 (bufAt B b)) ∧ IsBuf w' p m B ∧ Upd [] w w' := by
  have H := Lib.hid h
  have HR := Lib.hid hr
  have hp := h.plt
  have hm := h.mlt
  have hle := h.le
  clear h hr
  go_enter Try.func28, Try.ntmps28
  go_wp2_with fail
  have H1 := Lib.hid (H.out.alloc (.cells #[.pointer (some ⟨p, 0, none⟩)] 25))
  refine (none_any H1.out).mono ?_
  rintro e w1 ⟨rfl, rfl⟩
  have c3 := H1.out.c3
  go_wp2_with fail
  have hI : Holds1 (w.heap.size + 2) p m w.heap.size (w.heap.size + 1) a b B [] ((w.alloc (.cells #[.pointer (some ⟨p, 0, none⟩)] 25)).alloc (.cells #[.slice none 0 0] 69)) := by
    refine ⟨H1.out.alloc _, (Below.heap_alloc _ _ _ (by simp)).trans (block_new w _), .inl ⟨rfl, ?_⟩, by omega, by omega, by omega, by omega, by simp⟩
    have := block_new (w.alloc (.cells #[.pointer (some ⟨p, 0, none⟩)] 25)) (.cells #[.slice none 0 0] 69)
    simpa using this
  have HM := Lib.hid ((H1.out.alloc (.cells #[.slice none 0 0] 69)).map)
  refine (pieces_Held1 HM.out hle (does_held1 HR.out ht (by simp)) hI).mono ?_
  rintro e w4 ⟨rfl, hI4, hu4⟩
  rw [HR.out] at hI4
  obtain ⟨g, cap, hy4, hg, h0, h1⟩ : ∃ g cap, w4.heap[w.heap.size + 1]? = some (.cells #[.slice (some ⟨g, 0, none⟩) 1 cap] 69 (0, 0)) ∧ w.heap.size + 2 ≤ g ∧ w4.cell? ⟨g, 0, none⟩ = some (.int .u32 (bufAt B a)) ∧ w4.cell? ⟨g, 1, none⟩ = some (.int .u32 (bufAt B b)) := by
    rcases hI4.row with ⟨hd, _⟩ | ⟨_, h⟩
    · cases hd
    · exact h
  have cy : w4.cell? ⟨w.heap.size + 1, 0, none⟩ = some (.slice (some ⟨g, 0, none⟩) 1 cap) := (cell_of_blk hy4 0).trans rfl
  have K := Lib.hid (And.intro hI4.buf (And.intro hu4 (And.intro h0 h1)))
  clear hI4 hu4 h0 h1 hI c3 hy4
  go_wp2_with fail
  go_ret
  obtain ⟨hb, hu, h0, h1⟩ := K.out
  refine ⟨g, cap, rfl, h0, h1, hb, ?_⟩
  exact (((Upd.refl [] w).alloc _).alloc _).trans hu fun k hk hkl => by simp only [List.mem_singleton] at hk; subst hk; omega

theorem Try.underPair : Try.prog.underlying 71 = some (.array 2 23) := by kernel_rfl

theorem Try.pairNe (W : World) : (binOp .neq 71 (.agg #[.int .u32 0, .int .u32 2]) (.agg #[.int .u32 0, .int .u32 2])).run Try.prog W = .ok (.bool false) W := by kernel_rfl

set_option maxRecDepth 100000 in
set_option maxHeartbeats 3200000 in
/-- The reference's Same, of two lists of one pair each, the same. -/
theorem same_one {w : World} {g h c1 c2 : Nat} (g0 : w.cell? ⟨g, 0, none⟩ = some (.int .u32 0)) (g1 : w.cell? ⟨g, 1, none⟩ = some (.int .u32 2))
    (h0 : w.cell? ⟨h, 0, none⟩ = some (.int .u32 0)) (h1 : w.cell? ⟨h, 1, none⟩ = some (.int .u32 2)) :
    Calls Try.prog 27 #[.slice (some ⟨g, 0, none⟩) 1 c1, .slice (some ⟨h, 0, none⟩) 1 c2] w fun e w' => e = .returned (.bool true) ∧ ∃ n, w.drewN n = w' := by
  have hne := Try.pairNe
  go_enter Try.func27, Try.ntmps27
  go_wp2_with fail
  refine wp_loop_rounds 2 ?_
  rw [rounds_succ]
  go_wp2_with fail
  go_quiet (fail)
  go_wp2_with fail
  rw [rounds_succ]
  go_wp2_with fail
  go_ret
  exact ⟨rfl, _, rfl⟩
end Go.Proofs.Ytcjeipeeacnmmaa
