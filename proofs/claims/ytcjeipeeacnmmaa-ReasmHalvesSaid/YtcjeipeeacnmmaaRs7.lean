/-
  Contracts of package reasm: Put, the walk.
-/
import Derived.Test.YtcjeipeeacnmmaaRs6
namespace Go.Proofs.Ytcjeipeeacnmmaa
open Go.RowKit Go.Deep Go.Maps

/-- What the closure of Put keeps: the buffer, its own two variables, and the count so far. -/
structure Counts (p m x y : Nat) (B : RB) (d : List (Nat × Nat)) (w : World) : Prop where
  buf : IsBuf w p m B
  x0 : w.heap[x]? = some (.cells #[.pointer (some ⟨p, 0, none⟩)] 25 (0, 0))
  y0 : w.heap[y]? = some (.cells #[.int .i64 (holesOf B.taken d : Int)] 3 (0, 0))
  yp : y ≠ p
  ym : y ≠ m
  yx : y ≠ x

theorem holesOf_snoc (t : Nat) (d : List (Nat × Nat)) (ab : Nat × Nat) : holesOf t (d ++ [ab]) = holesOf t d + if t < ab.1 then 1 else 0 := by
  unfold holesOf
  rw [List.filter_append, List.length_append]
  by_cases h : t < ab.1 <;> simp [h]
theorem holesOf_le (t : Nat) (d : List (Nat × Nat)) : holesOf t d ≤ d.length := List.length_filter_le _ _

set_option maxRecDepth 20000 in
set_option maxHeartbeats 1000000 in
theorem put1_any {p m x y : Nat} {B : RB} {d : List (Nat × Nat)} {w : World} (h : Counts p m x y B d w) (a b : Nat) (hsm : d.length ≤ 16384) (_hs : a < 16384) (_hb : b ≤ 16384) :
    Calls Try.prog 25 #[.int .i64 (a : Int), .int .i64 (b : Int), .pointer (some ⟨x, 0, none⟩), .pointer (some ⟨y, 0, none⟩)] w fun e w' => e = .returned (.tuple #[]) ∧
      Counts p m x y B (d ++ [(a, b)]) w' ∧ Upd [y] w w' := by
  have c1 := h.buf.c1
  have cx : w.cell? ⟨x, 0, none⟩ = some (.pointer (some ⟨p, 0, none⟩)) := (cell_of_blk h.x0 0).trans rfl
  have cy : w.cell? ⟨y, 0, none⟩ = some (.int .i64 (holesOf B.taken d : Int)) := (cell_of_blk h.y0 0).trans rfl
  have fy := frozen_of_blk h.y0 0
  have hl := holesOf_le B.taken d
  have htr := h.buf.tr
  have hle := h.buf.le
  have H := Lib.hid h
  clear h
  by_cases hlt : B.taken < a
  · go_enter Try.func25, Try.ntmps25
    go_wp2
    go_end0
    have h := H.out
    refine ⟨rfl, ⟨?_, ?_, ?_, h.yp, h.ym, h.yx⟩, (Upd.refl _ _).setCell (.inl (by simp)) _⟩
    · exact ⟨(blk_setCell_ne (Ne.symm h.yp) _).trans h.buf.blk, h.buf.map.of_block (blk_setCell_ne (Ne.symm h.ym) _), h.buf.low, h.buf.tr, h.buf.le, h.buf.f0, h.buf.f1⟩
    · exact (blk_setCell_ne (Ne.symm h.yx) _).trans h.x0
    · rw [blk_setCell h.y0 0, holesOf_snoc, if_pos hlt]
      rfl
  · go_enter Try.func25, Try.ntmps25
    go_wp2
    go_end0
    have h := H.out
    refine ⟨rfl, ⟨h.buf, h.x0, ?_, h.yp, h.ym, h.yx⟩, Upd.refl _ _⟩
    rw [holesOf_snoc, if_neg hlt]
    exact h.y0

theorem does_put1 {p m x y : Nat} {B : RB} {w : World} {ks : List Nat} (hy : y < w.heap.size) : Does 25 x y [y] w ks (Counts p m x y B) where
  low := fun b hb => by simp only [List.mem_singleton] at hb; subst hb; exact hy
  keep := fun d W W' h hu => ⟨h.buf.upd hu (by simp) (by simp), (hu.block _ (Array.getElem?_eq_some_iff.1 h.x0).1 (by simp)).trans h.x0, (hu.block _ (Array.getElem?_eq_some_iff.1 h.y0).1 (by simp)).trans h.y0, h.yp, h.ym, h.yx⟩
  call := fun _ a b _ h _ hd ha hb => put1_any h a b hd ha hb

/-- What Put leaves. -/
def PutDone (p m : Nat) (B : RB) (at_ : Int) (data : List UInt8) (w : World) (e : Ending) (w' : World) : Prop :=
  (16 < putHoles B at_ data ∧ e = .returned (.tuple #[.int .i64 0, .int .i64 7]) ∧ IsBuf w' p m B ∧ Upd [] w w') ∨
  (putHoles B at_ data ≤ 16 ∧ e = .returned (.tuple #[.int .i64 (((keysF B.room (putF B at_ data)).length : Int) - ((keysF B.room B.f).length : Int)), .int .i64 0]) ∧
    ∃ a, w.heap.size ≤ a ∧ IsBuf w' p a { B with f := putF B at_ data } ∧ Upd [p] w w')

set_option maxRecDepth 100000 in
set_option maxHeartbeats 6400000 in
theorem put_any {w : World} {p m : Nat} {B : RB} (h : IsBuf w p m B) (at_ : Int) (a0 : 0 ≤ at_) (a1 : at_ < 4294967296) (v : Value) (data : List UInt8) (hb : Bytes w v data) (hn : data.length ≤ 140737488351232) :
    Calls Try.prog 6 #[.pointer (some ⟨p, 0, none⟩), .int .u32 at_, v] w (PutDone p m B at_ data w) := by
  have H := Lib.hid h
  have HB := Lib.hid hb
  have hp := h.plt
  have hm := h.mlt
  have htr := h.tr
  have hle := h.le
  clear h hb
  go_enter Try.func6, Try.ntmps6
  go_wp2_with fail
  have H1 := Lib.hid (H.out.alloc (.cells #[.pointer (some ⟨p, 0, none⟩)] 25))
  have HB1 := Lib.hid (HB.out.below ((Upd.refl [] w).alloc (.cells #[.pointer (some ⟨p, 0, none⟩)] 25)))
  refine (none_any H1.out).mono ?_
  rintro e w1 ⟨rfl, rfl⟩
  go_wp2_with fail
  refine wp_region_qss 7 1 (by kernel_rfl) (by kernel_rfl) ?_
  simp only [List.take_succ_cons, List.take_zero, List.drop_succ_cons, List.drop_zero, Nat.reduceAdd]
  repeat (go_big_quiet_step (first | (go_at_call 10; exact quiet_l (next_any (H1.out.drewN _))) | (go_at_call 11; exact quiet_d (room_any (H1.out.drewN _)))))
  refine wpQuiet_nil ?_
  intro _ hw'
  obtain ⟨nq, hw''⟩ := hw'
  subst hw''
  go_wp2_with fail
  refine (cut_any at_ (bufAt B B.taken) ((B.room : Int) - (B.taken : Int)) v data _ (by omega) (by omega) hn (HB1.out.drewN nq)).mono ?_
  rintro e w1 ⟨v1, rfl, hb1, hu1⟩
  have HB2 := Lib.hid (show Bytes w1 v1 (putPart B at_ data) from hb1)
  have H2 := Lib.hid ((H1.out.drewN nq).upd hu1 (by simp) (by simp))
  have HU1 := Lib.hid hu1
  have HX1 := Lib.hid ((hu1.block w.heap.size (by simp [World.drewN]) (by simp)).trans (show ((w.alloc (.cells #[.pointer (some ⟨p, 0, none⟩)] 25)).drewN nq).heap[w.heap.size]? = some (.cells #[.pointer (some ⟨p, 0, none⟩)] 25 (0, 0)) from block_new w _))
  have hsz1 : w.heap.size + 1 ≤ w1.heap.size := by have := hu1.size; simpa [World.drewN] using this
  have cx1 : w1.cell? ⟨w.heap.size, 0, none⟩ = some (.pointer (some ⟨p, 0, none⟩)) := by
    rw [hu1.cell (p := ⟨w.heap.size, 0, none⟩) (by simp [World.drewN]) (by simp)]
    exact cell_of_blk (block_new w _) 0
  clear hb1 hu1
  go_wp2_with fail
  dsimp only [midQ]
  repeat still_step
  refine wpStill_nil ?_
  obtain ⟨q, hq, hpf, hfit, hqb⟩ := put_place B data htr hle a0 a1
  generalize cutAt at_ (bufAt B B.taken) (ahd (bufAt B B.taken) at_) ((B.room : Int) - (B.taken : Int)) data.length = A at hq ⊢
  have cA : ∀ W, Calls Try.prog 22 #[.int .u32 (bufAt B B.taken), .int .u32 A] W fun e w' => e = .returned (.int .i32 (q : Int)) ∧ W = w' := fun W => by rw [← hq]; exact ahead_any _ _ _
  have CA := Lib.hid cA
  have HPF := Lib.hid hpf
  have HFIT := Lib.hid hfit
  clear hq hpf hfit cA
  have c1 := H2.out.c1
  go_wp2_with fail
  go_quiet (first | (go_at_call 10; exact quiet_l (next_any (H2.out.drewN _))) | (go_at_call 22; exact quiet_l (CA.out _)))
  obtain ⟨pl, hpl⟩ : ∃ pl, pl = B.taken + q := ⟨_, rfl⟩
  rw [show ((B.taken : Int) + (q : Int)) = (pl : Int) from by omega]
  rw [← hpl] at hqb
  have HPL := Lib.hid hpl
  clear hpl
  have c3 := H2.out.c3
  have HM := Lib.hid (show MapAt Try.prog 3 5 (w1.drewN nq) m B.room B.f from (H2.out.drewN nq).map)
  have hb2 := HB2.out
  obtain ⟨L, hL⟩ : ∃ L, L = putPart B at_ data := ⟨_, rfl⟩
  rw [← hL] at hb2
  have HL := Lib.hid hL
  clear hL HB2
  have HB2 := Lib.hid hb2
  obtain ⟨ad, cap, rfl, hcap, hnil, hcells⟩ := hb2
  have hLn : L.length ≤ 16384 := by
    have e := HL.out
    rcases HFIT.out with h | h
    · rw [← e] at h; omega
    · rw [e, h]; simp
  have HN := Lib.hid hnil
  have HC := Lib.hid hcells
  clear hnil hcells
  go_wp2_with fail
  refine (clone_map HM.out).mono ?_
  rintro e w2 ⟨a, rfl, ha, hMa, hu2⟩
  have hU2 : Upd [] w1 w2 := ((Upd.refl [] w1).drewN nq).trans' hu2
  have ha1 : w1.heap.size ≤ a := ha
  have HMa := Lib.hid hMa
  have HU2 := Lib.hid hU2
  clear hMa hU2 hu2 ha c1 c3
  obtain ⟨n, hn1⟩ : ∃ n, n = L.length := ⟨_, rfl⟩
  rw [← hn1] at hcap hLn HB2 ⊢
  have HNn := Lib.hid hn1
  clear hn1
  go_wp2_with fail
  go_loopw [48] (fun u wr => ∃ i : Nat, u = .int .i64 (i : Int) ∧ i ≤ n ∧ MapAt Try.prog 3 5 wr a B.room (fillF B.f pl (L.take i)) ∧ Upd [] w1 wr) (fun u _ => n - (intOf u).toNat)
  case atStart =>
    refine ⟨0, rfl, Nat.zero_le _, ?_, HU2.out⟩
    rw [List.take_zero, fillF_nil]
    exact HMa.out
  case round =>
    obtain ⟨i, rfl, hi, hM, hu⟩ := hrel
    have HMr := Lib.hid hM
    have HUr := Lib.hid hu
    clear hM hu
    by_cases hlt : i < n
    · obtain ⟨c, hc⟩ : ∃ c, L[i]? = some c := ⟨_, List.getElem?_eq_getElem (by have := HNn.out; omega)⟩
      obtain ⟨pa, hpa⟩ : ∃ pa, ad = some pa := by
        cases had : ad with
        | none => have := HN.out had; omega
        | some pa => exact ⟨pa, rfl⟩
      have hcell1 := HC.out pa hpa i c hc
      have hcell : wr.cell? (pa.add i) = some (.int .u8 (c.toNat : Int)) := (HUr.out.cell (lt_of_cell hcell1) (by simp)).trans hcell1
      have hroom : pl + i < B.room := by
        rcases HFIT.out with h | h
        · have e1 := HL.out; have e2 := HNn.out; have e3 := HPL.out
          rw [← e1] at h; omega
        · have e1 := HL.out; have e2 := HNn.out
          rw [e1, h] at e2; simp at e2; omega
      have hlk := HMr.out.look Try.underK Try.underE Try.underM (Try.zeroE _) (i := pl + i) (by omega)
      rw [fillF_at] at hlk
      rw [show (((pl + i : Nat)) : Int) = (pl : Int) + (i : Int) from by omega] at hlk
      have HCc := Lib.hid hc
      clear hc hcell1
      cases hf : B.f (pl + i) with
      | some c' =>
        rw [hf] at hlk
        simp only [Option.isSome_some] at hlk
        have HF := Lib.hid hf
        clear hf
        go_wp2_with fail
        go_roundw
        case rel =>
          refine ⟨i + 1, by go_num, by omega, ?_, HUr.out⟩
          rw [fillF_there (by rw [HF.out]; rfl)]
          exact HMr.out
        case measure => simp [intOf]; omega
      | none =>
        rw [hf] at hlk
        simp only [Option.isSome_none] at hlk
        have HF := Lib.hid hf
        clear hf
        obtain ⟨wz, hup, hMz, hturn⟩ := HMr.out.store Try.underK Try.underE Try.underM (by unfold maxLen; omega) hroom c
        rw [show (((pl + i : Nat)) : Int) = (pl : Int) + (i : Int) from by omega] at hup
        have HMz := Lib.hid hMz
        have HG := Lib.hid hturn.grown
        clear hMz hturn
        go_wp2_with fail
        go_roundw
        case rel =>
          refine ⟨i + 1, by go_num, by omega, ?_, HUr.out.grow HG.out fun g hg => by cases hg; exact .inr ha1⟩
          rw [← fillF_lay HF.out HCc.out]
          exact HMz.out
        case measure => simp [intOf]; omega
    · have hin : i = n := by omega
      subst hin
      have hMr := HMr.out
      rw [List.take_of_length_le (by have := HNn.out; omega)] at hMr
      rw [show fillF B.f pl L = putF B at_ data from by rw [HPF.out, HPL.out, HL.out]] at hMr
      have HMr2 := Lib.hid hMr
      clear hMr HMr
      have hxr := hsz1
      have hszr := HUr.out.size
      have hCnt : Counts p m w.heap.size wr.heap.size B [] (wr.alloc (.cells #[.int .i64 0] 3)) := by
        refine ⟨(H2.out.upd HUr.out (by simp) (by simp)).alloc _, ?_, ?_, ?_, ?_, ?_⟩
        · exact (Below.heap_alloc _ _ _ (by omega)).trans ((HUr.out.block _ (by omega) (by simp)).trans HX1.out)
        · exact block_new wr _
        · omega
        · omega
        · omega
      have HCnt := Lib.hid hCnt
      have HMa3 := Lib.hid (HMr2.out.of_block (Below.heap_alloc wr (.cells #[.int .i64 0] 3) a HMr2.out.lt))
      clear hCnt
      go_wp2_with fail
      refine (pieces_Put1 HMa3.out hle (does_put1 (by simp)) HCnt.out).mono ?_
      rintro e w4 ⟨rfl, hI, hu4⟩
      have HI := Lib.hid hI
      have HU4 := Lib.hid hu4
      have hya : a ≠ wr.heap.size := by have := HMr2.out.lt; omega
      have HM4 := Lib.hid (HMa3.out.of_block (hu4.block a HMa3.out.lt (by simp; exact hya)))
      have hUw : Upd [] w w4 := by
        have e1 : Upd [] w w1 := (((Upd.refl [] w).alloc _).drewN _).trans' HU1.out
        have e2 : Upd [] w (wr.alloc (.cells #[.int .i64 0] 3)) := (e1.trans' HUr.out).alloc _
        exact e2.trans hu4 fun k hk hkl => by simp only [List.mem_singleton] at hk; subst hk; omega
      have HUw := Lib.hid hUw
      have hh : holesOf B.taken (runsOf (keysF B.room (putF B at_ data))) = putHoles B at_ data := rfl
      have cy : w4.cell? ⟨wr.heap.size, 0, none⟩ = some (.int .i64 (putHoles B at_ data : Int)) := (cell_of_blk hI.y0 0).trans (by rw [hh]; rfl)
      have cx : w4.cell? ⟨w.heap.size, 0, none⟩ = some (.pointer (some ⟨p, 0, none⟩)) := (cell_of_blk hI.x0 0).trans rfl
      clear hI hu4 hUw hh cx1
      by_cases hbig : 16 < putHoles B at_ data
      · go_wp2_with fail
        go_ret2
        exact .inl ⟨hbig, rfl, HI.out.buf, HUw.out⟩
      · have c3 := HI.out.buf.c3
        have f3 := frozen_of_blk HI.out.buf.blk 3
        have hl1 : ∀ j, (Builtin.len_ #[57] 3 #[.map (some a)]).run Try.prog (w4.drewN j) = .ok (.int .i64 ((keysF B.room (putF B at_ data)).length : Int)) (w4.drewN j) := fun j => (HM4.out.of_block (w' := w4.drewN j) rfl).len Try.underM _
        have hl2 : ∀ j, (Builtin.len_ #[57] 3 #[.map (some m)]).run Try.prog (w4.drewN j) = .ok (.int .i64 ((keysF B.room B.f).length : Int)) (w4.drewN j) := fun j => (HI.out.buf.map.of_block (w' := w4.drewN j) rfl).len Try.underM _
        have hk1 := keysF_le B.room (putF B at_ data)
        have hk2 := keysF_le B.room B.f
        go_wp2_with fail
        go_quiet (fail)
        go_wp2_with fail
        go_ret2
        have hb := HI.out.buf
        refine .inr ⟨by omega, rfl, a, by omega, ?_, ?_⟩
        · have hap : a ≠ p := by omega
          refine ⟨?_, ?_, ?_, hb.tr, hb.le, hb.f0, hb.f1⟩
          · exact (blk_setCell (w := w4.drewN _) hb.blk 3 _).trans rfl
          · exact (HM4.out.of_block (w' := w4.drewN _) rfl).of_block (blk_setCell_ne hap _)
          · intro i hi
            have hi2 : i < B.taken := hi
            show putF B at_ data i = Option.none
            unfold putF fillF
            rw [hb.low i hi2]
            have : ¬ putPl B at_ ≤ i := by unfold putPl; omega
            simp [this]
        · exact ((HUw.out.nil [p]).drewN _).setCell (.inl (by simp)) _
end Go.Proofs.Ytcjeipeeacnmmaa
