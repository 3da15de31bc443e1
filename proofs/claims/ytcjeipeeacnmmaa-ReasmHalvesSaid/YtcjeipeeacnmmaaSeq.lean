/-
  Contracts of package seq.
-/
import Derived.Test.YtcjeipeeacnmmaaProg
import Derived.Test.YtcjeipeeacnmmaaK
import Derived.WalkSpells
import Derived.Deep.OwnRows
import Derived.WalkLawsBesides
namespace Go.Proofs.Ytcjeipeeacnmmaa
open Go.RowKit Go.Deep

/-- how far b is ahead of a -/
def ahd (a b : Int) : Int := wrap32 ((b - a) % 4294967296)
theorem ahd_range (a b : Int) : -2147483648 ≤ ahd a b ∧ ahd a b < 2147483648 := by
  unfold ahd wrap32; omega
theorem ahead_any (a b : Int) (w : World) :
    Calls Try.prog 22 #[.int .u32 a, .int .u32 b] w fun e w' => e = .returned (.int .i32 (ahd a b)) ∧ w = w' := by
  go_enter Try.func22, Try.ntmps22
  go_wp2
  go_ret
  exact ⟨rfl, rfl⟩
theorem add_any (a n : Int) (w : World) :
    Calls Try.prog 40 #[.int .u32 a, .int .i64 n] w fun e w' => e = .returned (.int .u32 ((a + n) % 4294967296)) ∧ w = w' := by
  go_enter Try.func40, Try.ntmps40
  go_wp2
  go_ret
  refine ⟨?_, rfl⟩
  show Ending.returned (Value.int .u32 ((a + n % 4294967296) % 4294967296)) = _
  rw [Int.add_emod_emod]

/-- where the part of data begins, and ends, that is in the stretch -/
def cLo (off : Int) : Nat := (-off).toNat
def cHi (off long : Int) (n : Nat) : Nat := min (long - off).toNat n
def cutB (off long : Int) (l : List UInt8) : List UInt8 := (l.drop (cLo off)).take (cHi off long l.length - cLo off)
def cutAt (at_ from_ off long : Int) (n : Nat) : Int := if cHi off long n ≤ cLo off then from_ else (at_ + (cLo off : Int)) % 4294967296

theorem cutB_nil {off long : Int} {l : List UInt8} (h : cHi off long l.length ≤ cLo off) : cutB off long l = [] := by
  unfold cutB; rw [Nat.sub_eq_zero_of_le h, List.take_zero]

theorem cutAt_nil {a f off long : Int} {n : Nat} (h : cHi off long n ≤ cLo off) : cutAt a f off long n = f := if_pos h
theorem Try.under22 : Try.prog.underlying 22 = some (.slice 5) := by kernel_rfl
theorem Try.infoU8 : (Try.prog.info? 5).map (fun i => (i.zero, i.size, i.bytes)) = some (some (.int .u8 0), 1, 1) := by kernel_rfl
theorem Try.sizeU8 : (Try.prog.info? 5).map (·.size) = some 1 := by kernel_rfl

set_option maxRecDepth 20000 in
set_option maxHeartbeats 1000000 in
theorem cut_core (at_ from_ long off : Int) (a : Option Addr) (cap : Nat) (l : List UInt8) (w : World) (hl : 0 ≤ long) (hl2 : long ≤ 2147483647) (hn : l.length ≤ 140737488351232)
    (hcap : l.length ≤ cap) (ho1 : -2147483648 ≤ off) (ho2 : off < 2147483648) (HO : Hid (ahd from_ at_ = off)) (HB : Bytes w (.slice a l.length cap) l) :
    Calls Try.prog 21 #[.int .u32 at_, .slice a l.length cap, .int .u32 from_, .int .u32 long] w fun e w' => ∃ v, e = .returned (.tuple #[.int .u32 (cutAt at_ from_ off long l.length), v]) ∧
      Bytes w' v (cutB off long l) ∧ Upd [] w w' := by
  obtain ⟨n, hn'⟩ : ∃ n, n = l.length := ⟨_, rfl⟩
  rw [← hn'] at hn hcap HB ⊢
  have HN := Lib.hid hn'
  have HB := Lib.hid HB
  clear hn'
  have hU := Try.under22
  have hI := Try.infoU8
  have hS := Try.sizeU8
  by_cases h0 : 0 < off
  · by_cases h1 : (n : Int) < long - off
    · by_cases h2 : (n : Int) ≤ 0
      · have H3 : Hid (cHi off long n ≤ cLo off) := by unfold Hid cHi cLo; omega
        go_enter Try.func21, Try.ntmps21
        go_wp2_with (first | (go_at_call 22; refine (ahead_any _ _ _).mono ?_; rintro e w' ⟨rfl, rfl⟩; rw [HO.out]))
        go_ret2
        exact ⟨_, by rw [cutAt_nil H3.out]; rfl, by rw [cutB_nil (by rw [← HN.out]; exact H3.out)]; exact Bytes.nil _, Upd.refl _ _⟩
      · have hlo : cLo off = 0 := by unfold cLo; omega
        have hhi : cHi off long n = n := by unfold cHi; omega
        have hcut : cutB off long l = (l.drop (0)).take (n - (0)) := by unfold cutB; rw [hlo, ← HN.out, hhi]
        have hat : cutAt at_ from_ off long n = at_ % 4294967296 := by unfold cutAt; rw [if_neg (by omega), hlo]; simp
        have hlen : (cutB off long l).length = n := by have := HN.out; rw [hcut]; simp; omega
        have hp : Bytes w (.slice a n n) (cutB off long l) := by rw [hcut]; rw [List.drop_zero]; exact HB.out.head (by omega) (by rw [← HN.out]; omega)
        have HC := Lib.hid hcut
        have HA := Lib.hid hat
        have HL := Lib.hid hlen
        have HP := Lib.hid hp
        clear hcut hat hlen hlo hhi hp
        go_enter Try.func21, Try.ntmps21
        go_wp2_with (first | (go_at_call 22; refine (ahead_any _ _ _).mono ?_; rintro e w' ⟨rfl, rfl⟩; rw [HO.out]))
        rw [run_make_row' (P := Try.prog) 22 5 (.int .u8 0) 1 hU hI rfl .i64 .i64 _ (by omega) (by omega)]
        simp only [Result.andThen]
        rw [Oper.upon_value]
        go_wp2_with fail
        rw [run_copy_fresh (P := Try.prog) w 22 22 _ 5 _ _ (cutB off long l) HL.out hU hS HP.out]
        simp only [Result.andThen]
        rw [Oper.upon_value]
        go_wp2_with (first | (go_at_call 40; refine (add_any _ _ _).mono ?_; rintro e w' ⟨rfl, rfl⟩))
        go_ret2
        refine ⟨_, by rw [HA.out]; rfl, by have := Bytes.fresh w (cutB off long l) 5; rw [HL.out] at this; exact this, (Upd.refl _ _).alloc _⟩
    · by_cases h2 : long - off ≤ 0
      · have H3 : Hid (cHi off long n ≤ cLo off) := by unfold Hid cHi cLo; omega
        go_enter Try.func21, Try.ntmps21
        go_wp2_with (first | (go_at_call 22; refine (ahead_any _ _ _).mono ?_; rintro e w' ⟨rfl, rfl⟩; rw [HO.out]))
        go_ret2
        exact ⟨_, by rw [cutAt_nil H3.out]; rfl, by rw [cutB_nil (by rw [← HN.out]; exact H3.out)]; exact Bytes.nil _, Upd.refl _ _⟩
      · have hlo : cLo off = 0 := by unfold cLo; omega
        have hhi : cHi off long n = (long - off).toNat := by unfold cHi; omega
        have hcut : cutB off long l = (l.drop (0)).take ((long - off).toNat - (0)) := by unfold cutB; rw [hlo, ← HN.out, hhi]
        have hat : cutAt at_ from_ off long n = at_ % 4294967296 := by unfold cutAt; rw [if_neg (by omega), hlo]; simp
        have hlen : (cutB off long l).length = (long - off).toNat := by have := HN.out; rw [hcut]; simp; omega
        have hp : Bytes w (.slice a ((long - off).toNat) ((long - off).toNat)) (cutB off long l) := by rw [hcut]; rw [List.drop_zero]; exact HB.out.head (by omega) (by rw [← HN.out]; omega)
        have HC := Lib.hid hcut
        have HA := Lib.hid hat
        have HL := Lib.hid hlen
        have HP := Lib.hid hp
        clear hcut hat hlen hlo hhi hp
        have hmx : max (long - off) 0 = long - off := Int.max_eq_left (by omega)
        go_enter Try.func21, Try.ntmps21
        go_wp2_with (first | (go_at_call 22; refine (ahead_any _ _ _).mono ?_; rintro e w' ⟨rfl, rfl⟩; rw [HO.out]))
        rw [run_make_int (P := Try.prog) 22 5 (.int .u8 0) 1 hU hI rfl .i64 .i64 _ (by omega) (by omega) (by omega)]
        simp only [Result.andThen]
        rw [Oper.upon_value]
        go_wp2_with fail
        rw [run_copy_fresh (P := Try.prog) w 22 22 _ 5 _ _ (cutB off long l) HL.out hU hS HP.out]
        simp only [Result.andThen]
        rw [Oper.upon_value]
        go_wp2_with (first | (go_at_call 40; refine (add_any _ _ _).mono ?_; rintro e w' ⟨rfl, rfl⟩))
        go_ret2
        refine ⟨_, by rw [HA.out]; rfl, by have := Bytes.fresh w (cutB off long l) 5; rw [HL.out] at this; exact this, (Upd.refl _ _).alloc _⟩
  · by_cases h1 : (n : Int) < long - off
    · by_cases h2 : (n : Int) ≤ - off
      · have H3 : Hid (cHi off long n ≤ cLo off) := by unfold Hid cHi cLo; omega
        go_enter Try.func21, Try.ntmps21
        go_wp2_with (first | (go_at_call 22; refine (ahead_any _ _ _).mono ?_; rintro e w' ⟨rfl, rfl⟩; rw [HO.out]))
        go_ret2
        exact ⟨_, by rw [cutAt_nil H3.out]; rfl, by rw [cutB_nil (by rw [← HN.out]; exact H3.out)]; exact Bytes.nil _, Upd.refl _ _⟩
      · have hlo : cLo off = (-off).toNat := by unfold cLo; omega
        have hhi : cHi off long n = n := by unfold cHi; omega
        have hcut : cutB off long l = (l.drop ((-off).toNat)).take (n - ((-off).toNat)) := by unfold cutB; rw [hlo, ← HN.out, hhi]
        have hat : cutAt at_ from_ off long n = (at_ + -off) % 4294967296 := by unfold cutAt; rw [if_neg (by omega), hlo, Int.toNat_of_nonneg (by omega)]
        have hlen : (cutB off long l).length = n - ((-off).toNat) := by have := HN.out; rw [hcut]; simp; omega
        have hp : Bytes w (.slice (a.map (fun x => Addr.add x (-off).toNat)) (n - (-off).toNat) (n - (-off).toNat)) (cutB off long l) := by rw [hcut]; exact HB.out.mid (by omega) (by rw [← HN.out]; omega)
        have HC := Lib.hid hcut
        have HA := Lib.hid hat
        have HL := Lib.hid hlen
        have HP := Lib.hid hp
        clear hcut hat hlen hlo hhi hp
        go_enter Try.func21, Try.ntmps21
        go_wp2_with (first | (go_at_call 22; refine (ahead_any _ _ _).mono ?_; rintro e w' ⟨rfl, rfl⟩; rw [HO.out]))
        rw [run_make_row' (P := Try.prog) 22 5 (.int .u8 0) 1 hU hI rfl .i64 .i64 _ (by omega) (by omega)]
        simp only [Result.andThen]
        rw [Oper.upon_value]
        go_wp2_with fail
        rw [run_copy_fresh (P := Try.prog) w 22 22 _ 5 _ _ (cutB off long l) HL.out hU hS HP.out]
        simp only [Result.andThen]
        rw [Oper.upon_value]
        go_wp2_with (first | (go_at_call 40; refine (add_any _ _ _).mono ?_; rintro e w' ⟨rfl, rfl⟩))
        go_ret2
        refine ⟨_, by rw [HA.out]; rfl, by have := Bytes.fresh w (cutB off long l) 5; rw [HL.out] at this; exact this, (Upd.refl _ _).alloc _⟩
    · by_cases h2 : long - off ≤ - off
      · have H3 : Hid (cHi off long n ≤ cLo off) := by unfold Hid cHi cLo; omega
        go_enter Try.func21, Try.ntmps21
        go_wp2_with (first | (go_at_call 22; refine (ahead_any _ _ _).mono ?_; rintro e w' ⟨rfl, rfl⟩; rw [HO.out]))
        go_ret2
        exact ⟨_, by rw [cutAt_nil H3.out]; rfl, by rw [cutB_nil (by rw [← HN.out]; exact H3.out)]; exact Bytes.nil _, Upd.refl _ _⟩
      · have hlo : cLo off = (-off).toNat := by unfold cLo; omega
        have hhi : cHi off long n = (long - off).toNat := by unfold cHi; omega
        have hcut : cutB off long l = (l.drop ((-off).toNat)).take ((long - off).toNat - ((-off).toNat)) := by unfold cutB; rw [hlo, ← HN.out, hhi]
        have hat : cutAt at_ from_ off long n = (at_ + -off) % 4294967296 := by unfold cutAt; rw [if_neg (by omega), hlo, Int.toNat_of_nonneg (by omega)]
        have hlen : (cutB off long l).length = (long - off).toNat - ((-off).toNat) := by have := HN.out; rw [hcut]; simp; omega
        have hp : Bytes w (.slice (a.map (fun x => Addr.add x (-off).toNat)) ((long - off).toNat - (-off).toNat) ((long - off).toNat - (-off).toNat)) (cutB off long l) := by rw [hcut]; exact HB.out.mid (by omega) (by rw [← HN.out]; omega)
        have HC := Lib.hid hcut
        have HA := Lib.hid hat
        have HL := Lib.hid hlen
        have HP := Lib.hid hp
        clear hcut hat hlen hlo hhi hp
        go_enter Try.func21, Try.ntmps21
        go_wp2_with (first | (go_at_call 22; refine (ahead_any _ _ _).mono ?_; rintro e w' ⟨rfl, rfl⟩; rw [HO.out]))
        rw [run_make_row' (P := Try.prog) 22 5 (.int .u8 0) 1 hU hI rfl .i64 .i64 _ (by omega) (by omega)]
        simp only [Result.andThen]
        rw [Oper.upon_value]
        go_wp2_with fail
        rw [run_copy_fresh (P := Try.prog) w 22 22 _ 5 _ _ (cutB off long l) HL.out hU hS HP.out]
        simp only [Result.andThen]
        rw [Oper.upon_value]
        go_wp2_with (first | (go_at_call 40; refine (add_any _ _ _).mono ?_; rintro e w' ⟨rfl, rfl⟩))
        go_ret2
        refine ⟨_, by rw [HA.out]; rfl, by have := Bytes.fresh w (cutB off long l) 5; rw [HL.out] at this; exact this, (Upd.refl _ _).alloc _⟩

/-- seq.Cut: the part of data that stands in the stretch, in new memory. -/
theorem cut_any (at_ from_ long : Int) (v : Value) (l : List UInt8) (w : World) (hl : 0 ≤ long) (hl2 : long ≤ 2147483647) (hn : l.length ≤ 140737488351232) (hb : Bytes w v l) :
    Calls Try.prog 21 #[.int .u32 at_, v, .int .u32 from_, .int .u32 long] w fun e w' => ∃ v', e = .returned (.tuple #[.int .u32 (cutAt at_ from_ (ahd from_ at_) long l.length), v']) ∧
      Bytes w' v' (cutB (ahd from_ at_) long l) ∧ Upd [] w w' := by
  have hb' := hb
  obtain ⟨a, cap, rfl, h1, _, _⟩ := hb'
  have hr := ahd_range from_ at_
  exact cut_core at_ from_ long _ a cap l w hl hl2 hn h1 hr.1 hr.2 (Lib.hid rfl) hb

theorem within_any (x from_ long : Int) (w : World) :
    Calls Try.prog 46 #[.int .u32 x, .int .u32 from_, .int .u32 long] w fun e w' => e = .returned (.bool (decide ((x - from_) % 4294967296 < long))) ∧ w = w' := by
  go_enter Try.func46, Try.ntmps46
  go_wp2
  go_ret
  exact ⟨rfl, rfl⟩
theorem less_any (a b : Int) (w : World) :
    Calls Try.prog 57 #[.int .u32 a, .int .u32 b] w fun e w' => e = .returned (.bool (decide (0 < ahd a b))) ∧ w = w' := by
  go_enter Try.func57, Try.ntmps57
  go_wp2_with (first | (go_at_call 22; refine (ahead_any _ _ _).mono ?_; rintro e w' ⟨rfl, rfl⟩))
  go_ret
  exact ⟨rfl, rfl⟩
end Go.Proofs.Ytcjeipeeacnmmaa
