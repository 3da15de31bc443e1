/-
  string(b) of bytes; the chapter's rows of layer 18 (wakes).
-/
import Derived.Test.YtcjeipeeacnmmaaRs9
import Derived.Laws.BytesArg
import Derived.Laws.BytesString
namespace Go.Proofs.Ytcjeipeeacnmmaa
open Go.RowKit Go.Deep Go.Maps

/-- a new block of bytes, whatever its mark -/
theorem Bytes.fresh_mark (w : World) (l : List UInt8) (t : TypeId) (fr : Nat × Nat) : Bytes (w.alloc (.cells (l.map byteV).toArray t fr)) (.slice (some ⟨w.heap.size, 0, none⟩) l.length l.length) l := by
  refine ⟨_, _, rfl, Nat.le_refl _, nofun, fun p hp i c hc => ?_⟩
  cases hp
  have hadd : (⟨w.heap.size, 0, none⟩ : Addr).add i = ⟨w.heap.size, i, none⟩ := by
    unfold Addr.add
    by_cases h0 : i = 0
    · subst h0; simp
    · simp [h0]
  rw [hadd, cell_of_blk (block_new w _)]
  simp [hc, byteV]
/-- the string of bytes -/
def strOf (l : List UInt8) : ByteArray := ⟨l.toArray⟩
theorem strOfNums_bytes (l : List UInt8) : strOfNums (l.map fun c : UInt8 => (c.toNat : Int)) = strOf l := by
  unfold strOfNums strOf
  rw [List.map_map]
  congr 1
  congr 1
  have : ((fun n : Int => UInt8.ofNat n.toNat) ∘ fun c : UInt8 => (c.toNat : Int)) = id := by
    funext c
    simp
  rw [this, List.map_id]
theorem Bytes.str {P : Program} {w : World} {v : Value} {l : List UInt8} (h : Bytes w v l) (src e dst : TypeId) (hs : P.underlying src = some (.slice e)) (he : P.underlying e = some (.int .u8)) (hd : P.underlying dst = some .string) :
    (convert src dst v).run P w = .ok (.string (strOf l)) w := by
  obtain ⟨a, cap, rfl, h1, h2, h3⟩ := h
  rw [run_convert_bytes_string w src dst e a _ _ hs he hd]
  cases a with
  | none =>
    have : l = [] := List.eq_nil_of_length_eq_zero (by have := h2 rfl; omega)
    subst this
    rfl
  | some p =>
    have hl := run_loadCells_list (P := P) w p (l.map fun c : UInt8 => Value.int .u8 (c.toNat : Int)) (by
      intro j v hj
      rw [List.getElem?_map] at hj
      cases hlj : l[j]? with
      | none => rw [hlj] at hj; cases hj
      | some c =>
        rw [hlj] at hj
        have : v = Value.int .u8 (c.toNat : Int) := by simpa using hj.symm
        subst this
        exact h3 p rfl j c hlj)
    have e1 : l.map (fun c : UInt8 => Value.int .u8 (c.toNat : Int)) = (l.map fun c : UInt8 => (c.toNat : Int)).map (Value.int .u8) := by
      rw [List.map_map]; rfl
    rw [List.length_map, e1] at hl
    rw [run_bytesToString w p l.length cap (l.map fun c : UInt8 => (c.toNat : Int)) hl, foldl_push_bytes]
    rw [← strOfNums_bytes]
    simp [strOfNums]

theorem new_ex (next : Int) (room : Nat) (w : World) (h0 : 0 ≤ next) (h1 : next < 4294967296) (hr : room ≤ 16384) :
    Calls Try.prog 5 #[.int .u32 next, .int .i64 (room : Int)] w fun e w' => ∃ p m, e = .returned (.tuple #[.pointer (some ⟨p, 0, none⟩), .int .i64 0]) ∧
      IsBuf w' p m (newRB next room) ∧ Upd [] w w' ∧ w.heap.size ≤ p ∧ w.heap.size ≤ m := by
  refine (new_any next room w h0 h1 hr).mono ?_
  rintro e w' ⟨he, hb, hu⟩
  exact ⟨_, _, he, hb, hu, by omega, Nat.le_refl _⟩

def wkB1 : RB := { newRB 4294967294 10 with f := putF (newRB 4294967294 10) 0 [99, 100] }
def wkB2 : RB := { wkB1 with f := putF wkB1 4294967293 [88, 97, 98] }
def wkB3 : RB := tookRB wkB2 4
def wkB4 : RB := { wkB3 with f := putF wkB3 2 [48, 49, 50, 51, 52, 53, 54, 55, 56, 57] }

theorem wk_runs : runsOf (keysF wkB1.room wkB1.f) = [(2, 4)] := by decide +kernel
theorem wk_h1 : putHoles (newRB 4294967294 10) 0 [99, 100] ≤ 16 := by decide +kernel
theorem wk_n1 : ((keysF (newRB 4294967294 10).room (putF (newRB 4294967294 10) 0 [99, 100])).length : Int) - ((keysF (newRB 4294967294 10).room (newRB 4294967294 10).f).length : Int) = 2 := by decide +kernel
theorem wk_r1 : IsRun wkB1.f wkB1.taken 0 := ⟨fun i hi => absurd hi (Nat.not_lt_zero i), by decide +kernel⟩
theorem wk_h2 : putHoles wkB1 4294967293 [88, 97, 98] ≤ 16 := by decide +kernel
theorem wk_n2 : ((keysF wkB1.room (putF wkB1 4294967293 [88, 97, 98])).length : Int) - ((keysF wkB1.room wkB1.f).length : Int) = 2 := by decide +kernel
theorem wk_r2 : IsRun wkB2.f wkB2.taken 4 := ⟨fun i hi => (show ∀ i, i < 4 → (wkB2.f (wkB2.taken + i)).isSome = true by decide +kernel) i hi, by decide +kernel⟩
theorem wk_s2 : strOf (bytesFrom wkB2.f wkB2.taken 4) = ⟨#[97, 98, 99, 100]⟩ := by decide +kernel
theorem wk_h3 : putHoles wkB3 2 [48, 49, 50, 51, 52, 53, 54, 55, 56, 57] ≤ 16 := by decide +kernel
theorem wk_n3 : ((keysF wkB3.room (putF wkB3 2 [48, 49, 50, 51, 52, 53, 54, 55, 56, 57])).length : Int) - ((keysF wkB3.room wkB3.f).length : Int) = 6 := by decide +kernel
theorem wk_r3 : IsRun wkB4.f wkB4.taken 6 := ⟨fun i hi => (show ∀ i, i < 6 → (wkB4.f (wkB4.taken + i)).isSome = true by decide +kernel) i hi, by decide +kernel⟩
theorem wk_s3 : strOf (bytesFrom wkB4.f wkB4.taken 6) = ⟨#[48, 49, 50, 51, 52, 53]⟩ := by decide +kernel
theorem wk_next : bufAt wkB3 wkB3.taken = 2 := by decide +kernel
theorem wk_room : ((wkB3.room : Int) - (wkB3.taken : Int)) = 6 := by decide +kernel
theorem wk_at2 : bufAt wkB1 2 = 0 := by decide +kernel
theorem wk_at4 : bufAt wkB1 4 = 2 := by decide +kernel

/-- Put where it goes through. -/
theorem put_ok {w : World} {p m : Nat} {B : RB} (h : IsBuf w p m B) (at_ : Int) (a0 : 0 ≤ at_) (a1 : at_ < 4294967296) (v : Value) (data : List UInt8) (hb : Bytes w v data) (hn : data.length ≤ 140737488351232) (hh : putHoles B at_ data ≤ 16) {n : Int}
    (he : ((keysF B.room (putF B at_ data)).length : Int) - ((keysF B.room B.f).length : Int) = n) :
    Calls Try.prog 6 #[.pointer (some ⟨p, 0, none⟩), .int .u32 at_, v] w fun e w' => ∃ a, e = .returned (.tuple #[.int .i64 n, .int .i64 0]) ∧ w.heap.size ≤ a ∧ IsBuf w' p a { B with f := putF B at_ data } ∧ Upd [p] w w' := by
  refine (put_any h at_ a0 a1 v data hb hn).mono ?_
  rintro e w' (⟨h1, _⟩ | ⟨_, h2, a, h3, h4, h5⟩)
  · omega
  · exact ⟨a, by rw [h2, he], h3, h4, h5⟩
/-- Take where it is known how many are ready. -/
theorem take_run {w : World} {p m : Nat} {B : RB} (h : IsBuf w p m B) {r : Nat} (hr : IsRun B.f B.taken r) :
    Calls Try.prog 9 #[.pointer (some ⟨p, 0, none⟩)] w fun e w' => ∃ v, e = .returned v ∧ Bytes w' v (bytesFrom B.f B.taken r) ∧ IsBuf w' p m (tookRB B r) ∧ Upd [p, m] w w' ∧ NewFrom w.heap.size v := by
  refine (take_any h).mono ?_
  rintro e w' ⟨r', v, h1, h2, h3, h4, h5, h6⟩
  have := h1.unique hr
  subst this
  exact ⟨v, h2, h3, h4, h5, h6⟩
theorem ready_run {w : World} {p m : Nat} {B : RB} (h : IsBuf w p m B) {r : Nat} (hr : IsRun B.f B.taken r) :
    Calls Try.prog 7 #[.pointer (some ⟨p, 0, none⟩)] w fun e w' => e = .returned (.int .i64 (r : Int)) ∧ ∃ n, w.drewN n = w' := by
  refine (ready_any h).mono ?_
  rintro e w' ⟨r', h1, h2, h3⟩
  have := h1.unique hr
  subst this
  exact ⟨h2, h3⟩
end Go.Proofs.Ytcjeipeeacnmmaa
