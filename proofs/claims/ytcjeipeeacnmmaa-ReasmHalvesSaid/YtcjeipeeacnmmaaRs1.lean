/-
  Contracts of package reasm: the small ones.
-/
import Derived.Test.YtcjeipeeacnmmaaSeq
import Derived.Test.YtcjeipeeacnmmaaMapF
import Derived.BigQuiet
import Derived.Deep.QuietTactic
import Derived.Outline
namespace Go.Proofs.Ytcjeipeeacnmmaa
open Go.RowKit Go.Deep Go.Maps

theorem Try.underK : Try.prog.underlying 3 = some (.int .i64) := by kernel_rfl
theorem Try.underE : Try.prog.underlying 5 = some (.int .u8) := by kernel_rfl
theorem Try.underM : Try.prog.underlying 57 = some (.map 3 5) := by kernel_rfl
theorem Try.zeroE (w : World) : (zeroValue 5).run Try.prog w = .ok (.int .u8 0) w := by kernel_rfl

/-- what a buffer is: its first number, how many were taken, its room at first, and its bytes by their places -/
structure RB where
  first : Int
  taken : Nat
  room : Nat
  f : Nat → Option UInt8

/-- Block p of w is the buffer B, whose bytes are the map of block m. -/
structure IsBuf (w : World) (p m : Nat) (B : RB) : Prop where
  blk : w.heap[p]? = some (.cells #[.int .u32 B.first, .int .i64 (B.taken : Int), .int .i64 (B.room : Int), .map (some m)] 59 (0, 0))
  map : MapAt Try.prog 3 5 w m B.room B.f
  low : ∀ i, i < B.taken → B.f i = none
  tr : B.taken ≤ B.room
  le : B.room ≤ 16384
  f0 : 0 ≤ B.first
  f1 : B.first < 4294967296

theorem cell_of_blk {w : World} {p : Nat} {cs : Array Value} {t : TypeId} {fr : Nat × Nat} (h : w.heap[p]? = some (.cells cs t fr)) (i : Nat) : w.cell? ⟨p, i, none⟩ = cs[i]? := by
  simp [World.cell?, h]
theorem frozen_of_blk {w : World} {p : Nat} {cs : Array Value} {t : TypeId} (h : w.heap[p]? = some (.cells cs t (0, 0))) (i : Nat) : w.frozen? ⟨p, i, none⟩ = false := by
  simp [World.frozen?, h]

theorem blk_setCell {w : World} {p : Nat} {cs : Array Value} {t : TypeId} {fr : Nat × Nat} (h : w.heap[p]? = some (.cells cs t fr)) (i : Nat) (v : Value) : (w.setCell ⟨p, i, none⟩ v).heap[p]? = some (.cells (cs.setIfInBounds i v) t fr) := by
  simp only [World.setCell, Array.getElem?_modify]
  rw [h]
  rfl
theorem blk_setCell_ne {w : World} {p q i : Nat} (h : q ≠ p) (v : Value) : (w.setCell ⟨p, i, none⟩ v).heap[q]? = w.heap[q]? := Below.heap_setCell w ⟨p, i, none⟩ v q h
section
variable {w : World} {p m : Nat} {B : RB}
theorem IsBuf.c0 (h : IsBuf w p m B) : w.cell? ⟨p, 0, none⟩ = some (.int .u32 B.first) := (cell_of_blk h.blk 0).trans rfl
theorem IsBuf.c1 (h : IsBuf w p m B) : w.cell? ⟨p, 1, none⟩ = some (.int .i64 (B.taken : Int)) := (cell_of_blk h.blk 1).trans rfl
theorem IsBuf.c2 (h : IsBuf w p m B) : w.cell? ⟨p, 2, none⟩ = some (.int .i64 (B.room : Int)) := (cell_of_blk h.blk 2).trans rfl
theorem IsBuf.c3 (h : IsBuf w p m B) : w.cell? ⟨p, 3, none⟩ = some (.map (some m)) := (cell_of_blk h.blk 3).trans rfl
theorem IsBuf.plt (h : IsBuf w p m B) : p < w.heap.size := (Array.getElem?_eq_some_iff.1 h.blk).1
theorem IsBuf.mlt (h : IsBuf w p m B) : m < w.heap.size := h.map.lt
theorem IsBuf.ne (h : IsBuf w p m B) : m ≠ p := by
  rintro rfl
  obtain ⟨es, c, hb, _⟩ := h.map.own
  rw [h.blk] at hb
  cases hb
theorem IsBuf.upd {S : List Nat} {w' : World} (h : IsBuf w p m B) (hu : Upd S w w') (hp : p ∉ S) (hm : m ∉ S) : IsBuf w' p m B :=
  ⟨(hu.block _ h.plt hp).trans h.blk, h.map.of_block (hu.block _ h.mlt hm), h.low, h.tr, h.le, h.f0, h.f1⟩
theorem IsBuf.grown {w' : World} {row : Option Nat} (h : IsBuf w p m B) (hg : w.grownBy w' row) (hp : row ≠ some p) (hm : row ≠ some m) : IsBuf w' p m B :=
  ⟨(hg.block _ h.plt (Ne.symm hp)).trans h.blk, h.map.of_block (hg.block _ h.mlt (Ne.symm hm)), h.low, h.tr, h.le, h.f0, h.f1⟩
theorem IsBuf.alloc (h : IsBuf w p m B) (o : Obj) : IsBuf (w.alloc o) p m B :=
  ⟨(Below.heap_alloc _ _ _ h.plt).trans h.blk, h.map.of_block (Below.heap_alloc _ _ _ h.mlt), h.low, h.tr, h.le, h.f0, h.f1⟩
theorem IsBuf.drewN (h : IsBuf w p m B) (n : Nat) : IsBuf (w.drewN n) p m B := ⟨h.blk, h.map.of_block rfl, h.low, h.tr, h.le, h.f0, h.f1⟩
end

theorem none_any {w : World} {p m : Nat} {B : RB} (h : IsBuf w p m B) :
    Calls Try.prog 20 #[.pointer (some ⟨p, 0, none⟩)] w fun e w' => e = .returned (.bool false) ∧ w = w' := by
  have c3 := h.c3
  clear h
  have h2 := fun W => run_eql_map_nil (P := Try.prog) W 57 _ _ (some m) Try.underM
  go_enter Try.func20, Try.ntmps20
  go_wp2
  go_ret
  exact ⟨rfl, rfl⟩
/-- .. and of no buffer. -/
theorem none_nil (w : World) : Calls Try.prog 20 #[.pointer none] w fun e w' => e = .returned (.bool true) ∧ w = w' := by
  go_enter Try.func20, Try.ntmps20
  go_wp2
  go_ret
  exact ⟨rfl, rfl⟩

def bufAt (B : RB) (i : Nat) : Int := (B.first + (i : Int)) % 4294967296

theorem at_any {w : World} {p m : Nat} {B : RB} (h : IsBuf w p m B) (i : Nat) :
    Calls Try.prog 26 #[.pointer (some ⟨p, 0, none⟩), .int .i64 (i : Int)] w fun e w' => e = .returned (.int .u32 (bufAt B i)) ∧ w = w' := by
  have c0 := h.c0
  clear h
  go_enter Try.func26, Try.ntmps26
  go_wp2_with (first | (go_at_call 40; refine (add_any _ _ _).mono ?_; rintro e w' ⟨rfl, rfl⟩))
  go_ret
  exact ⟨rfl, rfl⟩

theorem next_any {w : World} {p m : Nat} {B : RB} (h : IsBuf w p m B) :
    Calls Try.prog 10 #[.pointer (some ⟨p, 0, none⟩)] w fun e w' => e = .returned (.int .u32 (bufAt B B.taken)) ∧ w = w' := by
  have c1 := h.c1
  have H := Lib.hid h
  clear h
  go_enter Try.func10, Try.ntmps10
  go_wp2_with (first | (go_at_call 20; refine (none_any H.out).mono ?_; rintro e w' ⟨rfl, rfl⟩) | (go_at_call 26; refine (at_any H.out _).mono ?_; rintro e w' ⟨rfl, rfl⟩))
  go_ret
  exact ⟨rfl, rfl⟩

theorem room_any {w : World} {p m : Nat} {B : RB} (h : IsBuf w p m B) :
    Calls Try.prog 11 #[.pointer (some ⟨p, 0, none⟩)] w fun e w' => e = .returned (.int .i64 ((B.room : Int) - (B.taken : Int))) ∧ ∃ n, w.drewN n = w' := by
  have c1 := h.c1
  have c2 := h.c2
  have b1 := h.tr
  have b2 := h.le
  have H := Lib.hid h
  clear h
  go_enter Try.func11, Try.ntmps11
  go_wp2_with (first | (go_at_call 20; refine (none_any H.out).mono ?_; rintro e w' ⟨rfl, rfl⟩))
  go_quiet (fail)
  go_wp2
  go_ret
  exact ⟨rfl, _, rfl⟩

/-- r places from t on have bytes, and the next one has none -/
def IsRun (f : Nat → Option UInt8) (t r : Nat) : Prop := (∀ i, i < r → (f (t + i)).isSome = true) ∧ f (t + r) = Option.none
theorem IsRun.unique {f : Nat → Option UInt8} {t r s : Nat} (h : IsRun f t r) (k : IsRun f t s) : r = s := by
  rcases Nat.lt_trichotomy r s with hl | he | hl
  · have := k.1 r hl; rw [h.2] at this; cases this
  · exact he
  · have := h.1 s hl; rw [k.2] at this; cases this

def SomeRun (f : Nat → Option UInt8) (t : Nat) (w : World) (e : Ending) (w' : World) : Prop := ∃ r : Nat, IsRun f t r ∧ e = .returned (.int .i64 (r : Int)) ∧ ∃ n, w.drewN n = w'

set_option maxHeartbeats 1000000 in
theorem ready_any {w : World} {p m : Nat} {B : RB} (h : IsBuf w p m B) :
    Calls Try.prog 7 #[.pointer (some ⟨p, 0, none⟩)] w (SomeRun B.f B.taken w) := by
  have c1 := h.c1
  have c3 := h.c3
  have b1 := h.tr
  have b2 := h.le
  have H := Lib.hid h
  clear h
  go_enter Try.func7, Try.ntmps7
  go_wp2_with (first | (go_at_call 20; refine (none_any H.out).mono ?_; rintro e w' ⟨rfl, rfl⟩))
  go_loopw [3] (fun n wr => ∃ k : Nat, n = .int .i64 (k : Int) ∧ B.taken + k ≤ B.room ∧ (∀ i, i < k → (B.f (B.taken + i)).isSome = true) ∧ ∃ q, wr = w.drewN q) (fun n _ => B.room - (intOf n).toNat)
  case atStart => exact ⟨0, rfl, by omega, fun i hi => absurd hi (by omega), 0, rfl⟩
  case round =>
    obtain ⟨k, rfl, hk, hs, q, rfl⟩ := hrel
    have HS := Lib.hid hs
    clear hs
    have hl : ∀ j, (Instr.lookup 57 (.map (some m)) (.int .i64 ((B.taken : Int) + (k : Int))) true).run Try.prog (w.drewN j) = .ok (.tuple #[.int .u8 (((B.f (B.taken + k)).getD 0).toNat : Int), .bool (B.f (B.taken + k)).isSome]) (w.drewN j) := by
      intro j
      have := (H.out.map.of_block (w' := w.drewN j) rfl).look Try.underK Try.underE Try.underM (Try.zeroE _) (i := B.taken + k) (by omega)
      simpa using this
    cases hf : B.f (B.taken + k) with
    | none =>
      rw [hf] at hl
      simp only [Option.isSome_none] at hl
      have HF := Lib.hid hf
      clear hf
      go_wp2
      go_quiet (fail)
      go_wp2
      go_ret
      exact ⟨k, ⟨HS.out, HF.out⟩, rfl, _, rfl⟩
    | some c =>
      rw [hf] at hl
      simp only [Option.isSome_some] at hl
      have HF := Lib.hid hf
      clear hf
      have hlt : B.taken + k < B.room := Nat.lt_of_not_le fun hh => by have := H.out.map.bound _ hh; rw [HF.out] at this; cases this
      go_wp2
      go_quiet (fail)
      go_wp2
      go_roundw
      case rel =>
        refine ⟨k + 1, by go_num, by omega, fun i hi => ?_, _, rfl⟩
        by_cases hik : i = k
        · subst hik; rw [HF.out]; rfl
        · exact HS.out i (by omega)
      case measure => simp [intOf]; omega
end Go.Proofs.Ytcjeipeeacnmmaa
