/-
  The chapter's rows of layer 18 (wakes): they hold.
-/
import Derived.Test.YtcjeipeeacnmmaaRs10
import Derived.Lib.SlBytesConst
namespace Go.Proofs.Ytcjeipeeacnmmaa
open Go.RowKit Go.Deep Go.Maps

theorem Try.underS : Try.prog.underlying 9 = some .string := by kernel_rfl

set_option maxRecDepth 100000 in
set_option maxHeartbeats 6400000 in
theorem wakes18_any (w : World) : Calls Try.prog 12 #[] w fun e w' => e = .returned (.bool true) ∧ Upd [] w w' := by
  have hcv := fun (w : World) (C : Array Value) (n c : Nat) => Lib.run_convert_bytes_const (P := Try.prog) w 22 5 C n c Try.under22 Try.underE
  go_enter Try.func12, Try.ntmps12
  go_wp2_with fail
  refine (new_ex 4294967294 10 w (by decide) (by decide) (by decide)).mono ?_
  rintro e w1 ⟨p, m, rfl, hb, hu, hp, hm⟩
  have HB := Lib.hid hb
  have HU := Lib.hid hu
  clear hb hu
  go_wp2_with fail
  have HX := Lib.hid (show Bytes (w1.alloc (.cells #[.int .u8 99, .int .u8 100] 5 (2, 3))) (.slice (some ⟨w1.heap.size, 0, none⟩) 2 2) [99, 100] from Bytes.fresh_mark w1 [99, 100] 5 (2, 3))
  refine (put_ok (HB.out.alloc _) 0 (by decide) (by decide) _ [99, 100] HX.out (by decide) wk_h1 wk_n1).mono ?_
  rintro e w2 ⟨m2, rfl, hm2, hb2, hu2⟩
  have HB2 := Lib.hid (show IsBuf w2 p m2 wkB1 from hb2)
  have hU : Upd [] w w2 := (HU.out.alloc _).trans hu2 fun k hk hkl => by simp only [List.mem_singleton] at hk; subst hk; omega
  have HU2 := Lib.hid hU
  have hm2' : w.heap.size ≤ m2 := by have := HU.out.size; simp at hm2; omega
  clear hb2 hu2 hU hm2 HX HB HU
  go_wp2_with fail
  refine (ready_run HB2.out wk_r1).mono ?_
  rintro e w3 ⟨rfl, q, rfl⟩
  go_wp2_with fail
  refine (held_any (HB2.out.drewN q) wk_runs (by decide)).mono ?_
  rintro e w3 ⟨g, cap, rfl, h0, h1, hb3, hu3⟩
  rw [wk_at2] at h0
  rw [wk_at4] at h1
  have HB3 := Lib.hid hb3
  have HU3 := Lib.hid ((HU2.out.drewN q).trans' hu3)
  have hgl : g < w3.heap.size := lt_of_cell h0
  clear hb3 hu3 HB2 HU2
  go_wp2_with fail
  refine (same_one (w := w3.alloc (.cells #[.int .u32 0, .int .u32 2] 71)) ((World.cell?_of_block (Below.heap_alloc w3 _ _ hgl)).trans h0) ((World.cell?_of_block (Below.heap_alloc w3 _ _ hgl)).trans h1) ((cell_of_blk (block_new w3 _) 0).trans rfl) ((cell_of_blk (block_new w3 _) 1).trans rfl)).mono ?_
  rintro e w4 ⟨rfl, q4, rfl⟩
  have HB4 := Lib.hid ((HB3.out.alloc (.cells #[.int .u32 0, .int .u32 2] 71)).drewN q4)
  have HU4 := Lib.hid ((HU3.out.alloc (.cells #[.int .u32 0, .int .u32 2] 71)).drewN q4)
  obtain ⟨w4, hw4⟩ : ∃ w4, w4 = (w3.alloc (.cells #[.int .u32 0, .int .u32 2] 71)).drewN q4 := ⟨_, rfl⟩
  rw [← hw4] at HB4 HU4
  have HW4 := Lib.hid hw4
  simp only []
  rw [← hw4]
  clear hw4 h0 h1 hgl HB3 HU3
  go_wp2_with fail
  have HX5 := Lib.hid (show Bytes (w4.alloc (.cells #[.int .u8 88, .int .u8 97, .int .u8 98] 5 (3, 4))) (.slice (some ⟨w4.heap.size, 0, none⟩) 3 3) [88, 97, 98] from Bytes.fresh_mark w4 [88, 97, 98] 5 (3, 4))
  refine (put_ok (HB4.out.alloc _) 4294967293 (by decide) (by decide) _ [88, 97, 98] HX5.out (by decide) wk_h2 wk_n2).mono ?_
  rintro e w5 ⟨m5, rfl, hm5, hb5, hu5⟩
  have HB5 := Lib.hid (show IsBuf w5 p m5 wkB2 from hb5)
  have HU5 := Lib.hid (show Upd [] w w5 from (HU4.out.alloc _).trans hu5 fun k hk hkl => by simp only [List.mem_singleton] at hk; subst hk; omega)
  have hm5' : w.heap.size ≤ m5 := by have := HU4.out.size; simp at hm5; omega
  clear hb5 hu5 hm5 HX5 HB4 HU4 HW4
  go_wp2_with fail
  refine (take_run HB5.out wk_r2).mono ?_
  rintro e w6 ⟨v6, rfl, hx6, hb6, hu6, _⟩
  have hs6 := hx6.str (P := Try.prog) 22 5 9 Try.under22 Try.underE Try.underS
  rw [wk_s2] at hs6
  have HB6 := Lib.hid (show IsBuf w6 p m5 wkB3 from hb6)
  have HU6 := Lib.hid (show Upd [] w w6 from HU5.out.trans hu6 fun k hk hkl => by simp only [List.mem_cons, List.not_mem_nil, or_false] at hk; omega)
  clear hx6 hb6 hu6 HB5 HU5
  go_wp2_with fail
  have cN := next_any HB6.out
  rw [wk_next] at cN
  have CN := Lib.hid cN
  clear cN
  refine CN.out.mono ?_
  rintro e w7 ⟨rfl, rfl⟩
  clear CN
  go_wp2_with fail
  have cR := room_any HB6.out
  rw [wk_room] at cR
  have CR := Lib.hid cR
  clear cR
  refine CR.out.mono ?_
  rintro e w7 ⟨rfl, q7, rfl⟩
  clear CR hs6
  have HB7 := Lib.hid (HB6.out.drewN q7)
  have HU7 := Lib.hid (HU6.out.drewN q7)
  obtain ⟨w7, hw7⟩ : ∃ w7, w7 = w6.drewN q7 := ⟨_, rfl⟩
  rw [← hw7] at HB7 HU7
  have HW7 := Lib.hid hw7
  simp only []
  rw [← hw7]
  clear hw7 HB6 HU6
  go_wp2_with fail
  have HX8 := Lib.hid (show Bytes (w7.alloc (.cells #[.int .u8 48, .int .u8 49, .int .u8 50, .int .u8 51, .int .u8 52, .int .u8 53, .int .u8 54, .int .u8 55, .int .u8 56, .int .u8 57] 5 (10, 11))) (.slice (some ⟨w7.heap.size, 0, none⟩) 10 10) [48, 49, 50, 51, 52, 53, 54, 55, 56, 57] from Bytes.fresh_mark w7 [48, 49, 50, 51, 52, 53, 54, 55, 56, 57] 5 (10, 11))
  refine (put_ok (HB7.out.alloc _) 2 (by decide) (by decide) _ [48, 49, 50, 51, 52, 53, 54, 55, 56, 57] HX8.out (by decide) wk_h3 wk_n3).mono ?_
  rintro e w8 ⟨m8, rfl, hm8, hb8, hu8⟩
  have HB8 := Lib.hid (show IsBuf w8 p m8 wkB4 from hb8)
  have HU8 := Lib.hid (show Upd [] w w8 from (HU7.out.alloc _).trans hu8 fun k hk hkl => by simp only [List.mem_singleton] at hk; subst hk; omega)
  have hm8' : w.heap.size ≤ m8 := by have := HU7.out.size; simp at hm8; omega
  clear hb8 hu8 hm8 HX8 HB7 HU7 HW7
  go_wp2_with fail
  refine (take_run HB8.out wk_r3).mono ?_
  rintro e w9 ⟨v9, rfl, hx9, hb9, hu9, _⟩
  have hs9 := hx9.str (P := Try.prog) 22 5 9 Try.under22 Try.underE Try.underS
  rw [wk_s3] at hs9
  have HU9 := Lib.hid (show Upd [] w w9 from HU8.out.trans hu9 fun k hk hkl => by simp only [List.mem_cons, List.not_mem_nil, or_false] at hk; omega)
  clear hx9 hb9 hu9 HB8 HU8
  go_wp2_with fail
  go_ret
  exact ⟨rfl, HU9.out⟩
end Go.Proofs.Ytcjeipeeacnmmaa
