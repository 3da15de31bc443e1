/-
  Contracts of package reasm: New, Copy, and maps.Clone beneath it.
-/
import Derived.Test.YtcjeipeeacnmmaaRs1
import Derived.Shelf.SlMaps.Clone
import Derived.Deep.RegionHeld3
namespace Go.Proofs.Ytcjeipeeacnmmaa
open Go.RowKit Go.Deep Go.Maps

set_option maxRecDepth 20000 in
set_option maxHeartbeats 1000000 in
theorem clone_any (b : Nat) (es : Array MapEntry) (clock : Nat) (w : World) (hb : w.heap[b]? = some (.map es clock)) :
    Calls Try.prog 23 #[.map (some b)] w fun e w' => e = .returned (.map (some w.heap.size)) ∧ w.alloc (.map es clock) = w' := by
  have hq := fun w => Go.Proofs.run_eql_map_nil_sl (P := Try.prog) w 57 _ _ (some b) Try.underM
  go_enter Try.func23, Try.ntmps23
  go_wp2
  rw [run_callFunc_extern Try.func41 (by kernel_rfl) (by kernel_rfl) (by kernel_rfl) (e := Extern.MapsClone.clone) (by kernel_rfl), Go.Proofs.run_maps_clone_sl w 57 hb]
  simp only [Result.andThen]
  rw [Oper.upon_value]
  go_wp2
  rw [Go.Proofs.run_typeAssert_map_sl _ 57 20 _ _ _ Try.underM]
  simp only [Result.andThen]
  rw [Oper.upon_value]
  go_wp2
  go_ret
  exact ⟨rfl, rfl⟩

/-- .. as a map that reads the same. -/
theorem clone_map {b N : Nat} {f : Nat → Option UInt8} {w : World} (h : MapAt Try.prog 3 5 w b N f) :
    Calls Try.prog 23 #[.map (some b)] w fun e w' => ∃ a, e = .returned (.map (some a)) ∧ w.heap.size ≤ a ∧ MapAt Try.prog 3 5 w' a N f ∧ Upd [] w w' := by
  obtain ⟨es, clock, hb, hF, hs, hD⟩ := h.own
  refine (clone_any b es clock w hb).mono ?_
  rintro e w' ⟨he, rfl⟩
  refine ⟨_, he, Nat.le_refl _, ⟨⟨es, clock, ?_, hF, hs, hD⟩, h.bound⟩, (Upd.refl _ _).alloc _⟩
  show (w.heap.push _)[w.heap.size]? = _
  simp

theorem entL_none (N : Nat) : entL N (fun _ => Option.none) = [] := by
  unfold entL
  rw [List.filterMap_eq_nil_iff]
  intro a _
  rfl
theorem MapAt.made {P : Program} {k e : TypeId} (w : World) (N : Nat) : MapAt P k e (w.alloc (.map #[] 0)) w.heap.size N (fun _ => Option.none) := by
  refine ⟨?_, fun _ _ => rfl⟩
  have h := World.ownsMap_made w P k (plainElem (H := Unit) P e)
  have e1 : datF N (fun _ => Option.none) = .map [] := by unfold datF; rw [entL_none]
  rw [e1]
  exact h.mono (Nat.zero_le _)

theorem block_new (w : World) (o : Obj) : (w.alloc o).heap[w.heap.size]? = some o := by
  show (w.heap.push o)[w.heap.size]? = _
  simp
/-- the buffer that New makes -/
def newRB (next : Int) (room : Nat) : RB := ⟨next, 0, room, fun _ => Option.none⟩

set_option maxHeartbeats 1000000 in
theorem new_any (next : Int) (room : Nat) (w : World) (h0 : 0 ≤ next) (h1 : next < 4294967296) (hr : room ≤ 16384) :
    Calls Try.prog 5 #[.int .u32 next, .int .i64 (room : Int)] w fun e w' => e = .returned (.tuple #[.pointer (some ⟨w.heap.size + 1, 0, none⟩), .int .i64 0]) ∧
      IsBuf w' (w.heap.size + 1) w.heap.size (newRB next room) ∧ Upd [] w w' := by
  have hmm := @run_makeMap Try.prog
  go_enter Try.func5, Try.ntmps5
  go_wp2
  go_ret2
  refine ⟨rfl, ?_, ((Upd.refl _ _).alloc _).alloc _⟩
  refine ⟨?_, ?_, fun _ _ => rfl, Nat.zero_le _, hr, h0, h1⟩
  · have e : w.heap.size + 1 = (w.alloc (Obj.map #[] 0)).heap.size := by simp
    rw [e]
    exact block_new _ _
  · exact (MapAt.made w room).of_block (Below.heap_alloc _ _ _ (by simp))

/-- .. and where the room is none that may be. -/
theorem new_bad (next room : Int) (w : World) (h : room < 0 ∨ 16384 < room) :
    Calls Try.prog 5 #[.int .u32 next, .int .i64 room] w fun e w' => e = .returned (.tuple #[.pointer none, .int .i64 1]) ∧ w = w' := by
  rcases h with h | h
  all_goals
    go_enter Try.func5, Try.ntmps5
    go_wp2
    go_ret2
    exact ⟨rfl, rfl⟩

set_option maxRecDepth 20000 in
set_option maxHeartbeats 2000000 in
theorem copy_any {w : World} {p m : Nat} {B : RB} (h : IsBuf w p m B) :
    Calls Try.prog 8 #[.pointer (some ⟨p, 0, none⟩)] w fun e w' => e = .returned (.pointer (some ⟨w.heap.size + 1, 0, none⟩)) ∧
      IsBuf w' (w.heap.size + 1) w.heap.size B ∧ Upd [] w w' := by
  have c0 := h.c0
  have c1 := h.c1
  have c2 := h.c2
  have c3 := h.c3
  have b1 := h.tr
  have b2 := h.le
  have hp := h.plt
  obtain ⟨es, clock, hb, hF, hs, hD⟩ := h.map.own
  have H := Lib.hid h
  have HM := Lib.hid (And.intro hF (And.intro hs hD))
  clear h hF hs hD
  have HB := Lib.hid hb
  have hm := H.out.mlt
  clear hb
  go_enter Try.func8, Try.ntmps8
  go_wp2_with (first | (go_at_call 20; refine (none_any H.out).mono ?_; rintro e w' ⟨rfl, rfl⟩))
  go_region_held3 (fun w' => w'.cell? ⟨p, 0, none⟩ = some (.int .u32 B.first) ∧ w'.cell? ⟨p, 1, none⟩ = some (.int .i64 (B.taken : Int)) ∧ w'.cell? ⟨p, 2, none⟩ = some (.int .i64 (B.room : Int)) ∧ w'.cell? ⟨p, 3, none⟩ = some (.map (some m))) (go_keep)
    (first | (go_at_call 23; refine (clone_any m es clock w.drew HB.out).mono ?_; rintro e w' ⟨rfl, rfl⟩))
  go_wp2
  go_ret
  refine ⟨rfl, ?_, (((Upd.refl _ _).alloc _).alloc _).drew⟩
  have h := H.out
  refine ⟨?_, ?_, h.low, h.tr, h.le, h.f0, h.f1⟩
  · show ((w.alloc (Obj.map es clock)).alloc _).heap[w.heap.size + 1]? = _
    have e : w.heap.size + 1 = (w.alloc (Obj.map es clock)).heap.size := by simp
    rw [e]
    exact block_new _ _
  · have hM : MapAt Try.prog 3 5 (w.alloc (Obj.map es clock)) w.heap.size B.room B.f := ⟨⟨es, clock, block_new _ _, HM.out.1, HM.out.2.1, HM.out.2.2⟩, h.map.bound⟩
    exact hM.of_block (Below.heap_alloc _ _ _ (by simp))
end Go.Proofs.Ytcjeipeeacnmmaa
