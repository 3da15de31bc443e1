/-
  ReasmHalves: the walk.
-/
import Derived.Test.YtcjeipeeacnmmaaRs11
import Derived.Test.YtcjeipeeacnmmaaHv1
namespace Go.Proofs.Ytcjeipeeacnmmaa
open Go.RowKit Go.Deep Go.Maps

theorem strOf_halves (S : List UInt8) (k : Nat) : strOf (S.take k) ++ strOf (S.drop k) = strOf S := by
  have e : S = S.take k ++ S.drop k := (List.take_append_drop k S).symm
  conv => rhs; rw [e]
  unfold strOf
  apply ByteArray.ext
  simp
/-- Put of a stretch that closes up. -/
theorem put_suf_any {w : World} {p m : Nat} {first : Int} (f0 : 0 ≤ first) (f1 : first < 4294967296) {S : List UInt8} {t x d e y r : Nat} (h : IsBuf w p m (sufRB first S t x)) (hn : S.length ≤ 300) (htd : t ≤ d) (hde : d ≤ e) (he : e ≤ S.length) (hx : x ≤ e)
    (hy : min x d = y) (hr : x - y = r) {v : Value} {D : List UInt8} (hD : D = (S.drop d).take (e - d)) (hb : Bytes w v D) :
    Calls Try.prog 6 #[.pointer (some ⟨p, 0, none⟩), .int .u32 ((first + (d : Int)) % 4294967296), v] w fun e w' => ∃ a, e = .returned (.tuple #[.int .i64 (r : Int), .int .i64 0]) ∧ w.heap.size ≤ a ∧ IsBuf w' p a (sufRB first S t y) ∧ Upd [p] w w' := by
  subst hD
  obtain ⟨h1, h2, h3⟩ := put_suf f0 f1 hn htd hde he hx
  rw [hy, hr] at h3
  have hl : ((S.drop d).take (e - d)).length ≤ 140737488351232 := by simp; omega
  refine (put_ok h _ (Int.emod_nonneg _ (by decide)) (Int.emod_lt_of_pos _ (by decide)) v _ hb hl h2 h3).mono ?_
  rintro e w' ⟨a, h4, h5, h6, h7⟩
  rw [h1, hy] at h6
  exact ⟨a, h4, h5, h6, h7⟩
/-- .. at the first number. -/
theorem put_suf_0 {w : World} {p m : Nat} {first : Int} (f0 : 0 ≤ first) (f1 : first < 4294967296) {S : List UInt8} {x e : Nat} (h : IsBuf w p m (sufRB first S 0 x)) (hn : S.length ≤ 300) (he : e ≤ S.length) (hx : x ≤ e)
    {v : Value} {D : List UInt8} (hD : D = S.take e) (hb : Bytes w v D) :
    Calls Try.prog 6 #[.pointer (some ⟨p, 0, none⟩), .int .u32 first, v] w fun e w' => ∃ a, e = .returned (.tuple #[.int .i64 (x : Int), .int .i64 0]) ∧ w.heap.size ≤ a ∧ IsBuf w' p a (sufRB first S 0 0) ∧ Upd [p] w w' := by
  have := put_suf_any f0 f1 h hn (Nat.zero_le 0) (Nat.zero_le e) he hx (Nat.min_zero x) (Nat.sub_zero x) (D := D) (by rw [List.drop_zero, Nat.sub_zero]; exact hD) hb
  rw [show (first + ((0 : Nat) : Int)) % 4294967296 = first by omega] at this
  exact this
/-- Take of all that stands there. -/
theorem take_suf {w : World} {p m : Nat} {first : Int} {S : List UInt8} {t x : Nat} (h : IsBuf w p m (sufRB first S t x)) (ht : t ≤ S.length) (hx : x ≤ t) :
    Calls Try.prog 9 #[.pointer (some ⟨p, 0, none⟩)] w fun e w' => ∃ v, e = .returned v ∧ Bytes w' v (S.drop t) ∧ IsBuf w' p m (sufRB first S S.length S.length) ∧ Upd [p, m] w w' ∧ NewFrom w.heap.size v := by
  refine (take_run h (r := S.length - t) (show IsRun (sufRB first S t x).f (sufRB first S t x).taken (S.length - t) from run_suf (S := S) ht hx)).mono ?_
  rintro e w' ⟨v, h1, h2, h3, h4, h5⟩
  rw [took_suf ht hx] at h3
  rw [show bytesFrom (sufRB first S t x).f (sufRB first S t x).taken (S.length - t) = S.drop t from bytes_suf hx] at h2
  exact ⟨v, h1, h2, h3, h4, h5⟩
theorem IsBuf.upd1 {w w' : World} {p m q : Nat} {B : RB} (h : IsBuf w p m B) (hu : Upd [q] w w') (hp : p ≠ q) (hm : m ≠ q) : IsBuf w' p m B := h.upd hu (by simpa using hp) (by simpa using hm)
theorem IsBuf.upd2 {w w' : World} {p m q r : Nat} {B : RB} (h : IsBuf w p m B) (hu : Upd [q, r] w w') (hp : p ≠ q) (hp2 : p ≠ r) (hm : m ≠ q) (hm2 : m ≠ r) : IsBuf w' p m B := h.upd hu (by simp [hp, hp2]) (by simp [hm, hm2])
theorem Upd.new1 {w w1 w' : World} {q : Nat} (h : Upd [] w w1) (hu : Upd [q] w1 w') (hq : w.heap.size ≤ q) : Upd [] w w' := h.trans hu fun k hk hkl => by simp only [List.mem_singleton] at hk; omega
theorem Upd.new2 {w w1 w' : World} {q r : Nat} (h : Upd [] w w1) (hu : Upd [q, r] w1 w') (hq : w.heap.size ≤ q) (hr : w.heap.size ≤ r) : Upd [] w w' := h.trans hu fun k hk hkl => by simp only [List.mem_cons, List.not_mem_nil, or_false] at hk; omega

theorem head_drop {ops : Array Oper} {i : Nat} {o : Oper} (h : (ops.toList.drop i).head? = some o) : ops[i]? = some o := by
  rw [List.head?_drop] at h; simpa using h
theorem takeH {P : Program} {md : Region.Mode} {ops : Array Oper} {Q : Exit → Act → World → Prop} {S : World → Prop} {i : Nat} {oi : Oper} {v : Value} {fuel : Nat} {listed : Array Bool} {a : Act} {w : World} (hi : (ops.toList.drop i).head? = some oi)
    (hs : Region.noSelect ops = true) (hf : Region.free md ops listed i = true) (hr : (Region.ready md ops listed).contains i = true)
    (hQ : ∀ c a w, Q (.panic c) (a.put oi.dst v) w → Q (.panic c) a w) (hy : YieldsIf P ops S oi v a) (hS : S w)
    (h : wpAnyH P md ops Q S fuel (listed.setIfInBounds i true) (a.put oi.dst v) w) : wpAnyH P md ops Q S (fuel + 1) listed a w :=
  wpAnyH_take (head_drop hi) hs hf hr hQ hy hS h
theorem readyH {P : Program} {md : Region.Mode} {ops : Array Oper} {Q : Exit → Act → World → Prop} {S : World → Prop} {i : Nat} {o : Oper} {fuel : Nat} {listed : Array Bool} {a : Act} {w : World} (hi : (ops.toList.drop i).head? = some o)
    (hr : Region.ready md ops listed = [i])
    (h : ∀ K' : Act → World → Prop, Shut (∀ a w, S w → (S w → wpAnyH P md ops Q S fuel (listed.setIfInBounds i true) a w) → K' a w) → if Region.wanted o (yielded ops a.tmps) = true then Oper.wp P o a w K' Q else K' (a.put o.dst undef) w) :
    wpAnyH P md ops Q S (fuel + 1) listed a w := wpAnyH_ready hr (by simp) (AllReadyH.cons (head_drop hi) h AllReadyH.nil)
/-- A condition may grow while a region goes on. -/
theorem wpAnyH_mono {P : Program} {md : Region.Mode} {ops : Array Oper} {Q : Exit → Act → World → Prop} {S S' : World → Prop} (hS : ∀ w, S' w → S w) :
    ∀ {fuel : Nat} {listed : Array Bool} {a : Act} {w : World}, wpAnyH P md ops Q S' fuel listed a w → wpAnyH P md ops Q S fuel listed a w := by
  intro fuel
  induction fuel with
  | zero => intro _ _ _ h; exact h
  | succ f ih => intro _ _ _ h; exact ⟨h.1, fun i hi => wpOp_mono (fun a' w' h' => ⟨hS _ h'.1, ih h'.2⟩) (h.2 i hi)⟩

set_option maxRecDepth 100000 in
set_option maxHeartbeats 12800000 in
theorem halves_any (v : Value) (l : List UInt8) (w : World) (hb : Bytes w v l) (hl : l.length ≤ 9223372036854775807) (first at_ cut : Int) (f0 : 0 ≤ first) (f1 : first < 4294967296) (a0 : 0 ≤ at_) (a1 : at_ < 65536) (c0 : 0 ≤ cut) (c1 : cut < 65536) :
    Calls Try.prog 3 #[v, .int .u32 first, .int .u16 at_, .int .u16 cut] w fun e w' => e = .returned (.bool true) ∧ Upd [] w w' := by
  have hb' := hb
  obtain ⟨a, cap, rfl, hcap, hnil, _⟩ := hb'
  obtain ⟨n0, hn0⟩ : ∃ n0, l.length = n0 := ⟨_, rfl⟩
  rw [hn0] at hcap hl hb ⊢
  obtain ⟨n, hn⟩ : ∃ n, n = min n0 300 := ⟨_, rfl⟩
  have hmin : ∀ W, (Builtin.min_ #[3, 3] 3 #[.int .i64 (n0 : Int), .int .i64 300]).run Try.prog W = .ok (.int .i64 (n : Int)) W := by
    intro W
    have e : (n : Int) = if (300 : Int) < (n0 : Int) then 300 else (n0 : Int) := by split <;> omega
    rw [e]
    simp [Builtin.min_, Builtin.min2]
  have hn1 : n ≤ n0 := by omega
  have hn2 : n ≤ 300 := by omega
  have HB := Lib.hid hb
  have HN0 := Lib.hid hn0
  have HN := Lib.hid hn
  have HNIL := Lib.hid hnil
  clear hb hn0 hn hnil
  go_enter Try.func3, Try.ntmps3
  go_wp2_with fail
  go_quiet (fail)
  have m1 := Int.emod_nonneg at_ (show ((n : Int) + 1) ≠ 0 by omega)
  have m2 := Int.emod_lt_of_pos at_ (show 0 < ((n : Int) + 1) by omega)
  have m3 := Int.emod_nonneg cut (show ((n : Int) + 1) ≠ 0 by omega)
  have m4 := Int.emod_lt_of_pos cut (show 0 < ((n : Int) + 1) by omega)
  obtain ⟨k, hk⟩ : ∃ k : Nat, at_ % ((n : Int) + 1) = (k : Int) := ⟨(at_ % ((n : Int) + 1)).toNat, by omega⟩
  obtain ⟨c, hc⟩ : ∃ c : Nat, cut % ((n : Int) + 1) = (c : Int) := ⟨(cut % ((n : Int) + 1)).toNat, by omega⟩
  rw [hk, hc]
  have hkn : k ≤ n := by omega
  have hcn : c ≤ n := by omega
  obtain ⟨w1, hw1⟩ : ∃ w1, w1 = w.drewN nq := ⟨_, rfl⟩
  rw [← hw1]
  have HU1 := Lib.hid (show Upd [] w w1 by rw [hw1]; exact (Upd.refl [] w).drewN nq)
  obtain ⟨S, hS⟩ : ∃ S, S = l.take n := ⟨_, rfl⟩
  have HS := Lib.hid (show Bytes w1 (.slice a n cap) S by
    have hh := HB.out.part (lo := 0) (hi := n) (mx := cap) (Nat.zero_le _) (by rw [HN0.out]; exact hn1) (by omega) (Nat.le_refl _)
    rw [List.drop_zero, Nat.sub_zero, Nat.sub_zero] at hh
    have e : (if cap = 0 then a else a.map (·.add 0)) = a := by
      split
      · rfl
      · cases a with
        | none => rfl
        | some p => simp [Addr.add]
    rw [e] at hh
    rw [hw1, hS]
    exact hh.drewN nq)
  have HSn := Lib.hid (show S.length = n by rw [hS, List.length_take, HN0.out]; omega)
  clear hk hc hw1 hS m1 m2 m3 m4 hmin hn1 hl hcap HNIL HB HN HN0 a0 a1 c0 c1
  obtain ⟨vk, hvk, hbk⟩ := run_slice_from (P := Try.prog) Try.under22 Try.sizeU8 HS.out (k := k) (by rw [HSn.out]; exact hkn)
  obtain ⟨uk, huk, hdk⟩ := run_slice_to (P := Try.prog) Try.under22 Try.sizeU8 HS.out (k := k) (by rw [HSn.out]; exact hkn)
  have HVK := Lib.hid hbk
  have HUK := Lib.hid hdk
  clear hbk hdk
  go_wp2_with fail
  refine (new_ex first 400 w1 f0 f1 (by decide)).mono ?_
  rintro e w2 ⟨pa, ma, rfl, hb2, hu2, hpa, hma⟩
  have HA := Lib.hid (show IsBuf w2 pa ma (sufRB first S 0 n) by
    have e : sufRB first S 0 n = newRB first 400 := by unfold sufRB newRB; rw [sufF_none S (by rw [HSn.out]; exact Nat.le_refl n)]
    rw [e]; exact hb2)
  have HU2 := Lib.hid hu2
  have hpa2 := hb2.plt
  have hma2 := hb2.mlt
  have hs2 := hu2.size
  clear hb2 hu2
  go_wp2_with fail
  refine (new_ex first 400 w2 f0 f1 (by decide)).mono ?_
  rintro e w3 ⟨pb, mb, rfl, hb3, hu3, hpb, hmb⟩
  have HBf := Lib.hid (show IsBuf w3 pb mb (sufRB first (S.take k) 0 k) by
    have e : sufRB first (S.take k) 0 k = newRB first 400 := by unfold sufRB newRB; rw [sufF_none (S.take k) (by simp; omega)]
    rw [e]; exact hb3)
  have HA3 := Lib.hid (HA.out.upd hu3 (by simp) (by simp))
  have HU3 := Lib.hid (HU2.out.trans' hu3)
  have hpb3 := hb3.plt
  have hmb3 := hb3.mlt
  have hs3 := hu3.size
  clear hb3 hu3 HA HU2
  go_wp2_with fail
  have hw13 := HU3.out.size
  obtain ⟨nk, hnk⟩ : ∃ nk, n - k = nk := ⟨_, rfl⟩
  refine (put_suf_any f0 f1 (d := k) (e := n) (y := k) (r := nk) (v := vk) (D := S.drop k) HA3.out (by rw [HSn.out]; exact hn2) (Nat.zero_le k) hkn (by rw [HSn.out]; exact Nat.le_refl n) (Nat.le_refl n) (Nat.min_eq_right hkn) hnk (List.take_of_length_le (by simp [HSn.out])).symm (HVK.out.below HU3.out)).mono ?_
  rintro e w4 ⟨ma4, rfl, hma4, hb4, hu4⟩
  have HNK := Lib.hid hnk
  have HA4 := Lib.hid hb4
  have HB4 := Lib.hid (HBf.out.upd1 hu4 (by omega) (by omega))
  have HU4 := Lib.hid (HU3.out.new1 hu4 hpa)
  have hs4 := hu4.size
  have hma4' := hb4.mlt
  clear hb4 hu4 HA3 HBf HU3 hnk
  go_wp2_with fail
  obtain ⟨rd, hrd, hrd0⟩ : ∃ rd, IsRun (sufRB first S 0 k).f (sufRB first S 0 k).taken rd ∧ (0 < k → rd = 0) := by
    rcases Nat.eq_zero_or_pos k with h0 | h0
    · subst h0; exact ⟨_, run_suf (S := S) (Nat.zero_le _) (Nat.le_refl 0), fun h => absurd h (Nat.lt_irrefl 0)⟩
    · exact ⟨0, run_suf0 h0, fun _ => rfl⟩
  have HRD := Lib.hid hrd0
  refine (ready_run HA4.out hrd).mono ?_
  rintro e w5 ⟨rfl, q5, rfl⟩
  clear hrd hrd0
  go_wp2_with fail
  refine (copy_any (HA4.out.drewN q5)).mono ?_
  rintro e w6 ⟨rfl, hb6, hu6⟩
  obtain ⟨ph, hph⟩ : ∃ ph, ph = (w4.drewN q5).heap.size + 1 := ⟨_, rfl⟩
  obtain ⟨mh, hmh⟩ : ∃ mh, mh = (w4.drewN q5).heap.size := ⟨_, rfl⟩
  rw [← hph, ← hmh] at hb6
  rw [← hph]
  have HH6 := Lib.hid hb6
  have HA6 := Lib.hid ((HA4.out.drewN q5).upd hu6 (by simp) (by simp))
  have HB6 := Lib.hid ((HB4.out.drewN q5).upd hu6 (by simp) (by simp))
  have HU6 := Lib.hid ((HU4.out.drewN q5).trans' hu6)
  have hs6 : w4.heap.size ≤ w6.heap.size := hu6.size
  have hph2 : w4.heap.size ≤ ph := by rw [hph]; exact Nat.le_succ _
  have hmh2 : w4.heap.size ≤ mh := by rw [hmh]; exact Nat.le_refl _
  have hph6 := hb6.plt
  have hmh6 := hb6.mlt
  clear hb6 hu6 HA4 HB4 HU4 hph hmh
  go_wp2_with fail
  refine (put_suf_0 f0 f1 (e := k) (v := uk) HA6.out (by rw [HSn.out]; exact hn2) (by rw [HSn.out]; exact hkn) (Nat.le_refl k) rfl (HUK.out.below HU6.out)).mono ?_
  rintro e w7 ⟨ma7, rfl, hma7, hb7, hu7⟩
  have HA7 := Lib.hid hb7
  have HB7 := Lib.hid (HB6.out.upd1 hu7 (by omega) (by omega))
  have HH7 := Lib.hid (HH6.out.upd1 hu7 (by omega) (by omega))
  have HU7 := Lib.hid (HU6.out.new1 hu7 hpa)
  have hs7 := hu7.size
  have hma7' := hb7.mlt
  clear hb7 hu7 HA6 HB6 HH6 HU6
  go_wp2_with fail
  refine (put_suf_0 f0 f1 (S := S.take k) (e := k) (v := uk) HB7.out (by simp; omega) (by simp [HSn.out]; omega) (Nat.le_refl k) (List.take_of_length_le (by simp; omega)).symm (HUK.out.below HU7.out)).mono ?_
  rintro e w8 ⟨mb8, rfl, hmb8, hb8, hu8⟩
  have HB8 := Lib.hid hb8
  have HA8 := Lib.hid (HA7.out.upd1 hu8 (by omega) (by omega))
  have HH8 := Lib.hid (HH7.out.upd1 hu8 (by omega) (by omega))
  have HU8 := Lib.hid (HU7.out.new1 hu8 (by omega))
  have hs8 := hu8.size
  have hmb8' := hb8.mlt
  clear hb8 hu8 HA7 HB7 HH7 HU7
  go_wp2_with fail
  refine (take_suf (S := S.take k) HB8.out (Nat.zero_le _) (Nat.le_refl 0)).mono ?_
  rintro e w9 ⟨vx, rfl, hx9, hb9, hu9, hnx⟩
  have hlk : (S.take k).length = k := by simp [HSn.out]; omega
  have HX9 := Lib.hid (show Bytes w9 vx (S.take k) by rw [List.drop_zero] at hx9; exact hx9)
  have HB9 := Lib.hid (show IsBuf w9 pb mb8 (sufRB first S k n) by
    have e : sufRB first (S.take k) (S.take k).length (S.take k).length = sufRB first S k n := by
      rw [hlk]
      unfold sufRB
      rw [sufF_none S (by rw [HSn.out]; exact Nat.le_refl n), sufF_none (S.take k) (by rw [hlk]; exact Nat.le_refl k)]
    rw [← e]; exact hb9)
  have HA9 := Lib.hid (HA8.out.upd2 hu9 (by omega) (by omega) (by omega) (by omega))
  have HH9 := Lib.hid (HH8.out.upd2 hu9 (by omega) (by omega) (by omega) (by omega))
  have HU9 := Lib.hid (HU8.out.new2 hu9 (by omega) (by omega))
  have hs9 := hu9.size
  have HNX := Lib.hid hnx
  clear hnx hb9 hu9 hx9 hlk HA8 HB8 HH8 HU8
  go_wp2_with fail
  refine (put_suf_any f0 f1 (d := k) (e := n) (y := k) (r := nk) (v := vk) (D := S.drop k) HB9.out (by rw [HSn.out]; exact hn2) (Nat.le_refl k) hkn (by rw [HSn.out]; exact Nat.le_refl n) (Nat.le_refl n) (Nat.min_eq_right hkn) HNK.out (List.take_of_length_le (by simp [HSn.out])).symm (HVK.out.below HU9.out)).mono ?_
  rintro e w10 ⟨mb10, rfl, hmb10, hb10, hu10⟩
  have HB10 := Lib.hid hb10
  have HA10 := Lib.hid (HA9.out.upd1 hu10 (by omega) (by omega))
  have HH10 := Lib.hid (HH9.out.upd1 hu10 (by omega) (by omega))
  have HU910 := Lib.hid hu10
  have HU10 := Lib.hid (HU9.out.new1 hu10 (by omega))
  have hs10 := hu10.size
  have hmb10' := hb10.mlt
  clear hb10 hu10 HA9 HB9 HH9 HU9
  go_wp2_with fail
  refine (take_suf HB10.out (by rw [HSn.out]; exact hkn) (Nat.le_refl k)).mono ?_
  rintro e w11 ⟨vy, rfl, hy11, hb11, hu11, _⟩
  have HB11 := Lib.hid (show IsBuf w11 pb mb10 (sufRB first S n n) by rw [HSn.out] at hb11; exact hb11)
  have HA11 := Lib.hid (HA10.out.upd2 hu11 (by omega) (by omega) (by omega) (by omega))
  have HH11 := Lib.hid (HH10.out.upd2 hu11 (by omega) (by omega) (by omega) (by omega))
  have HY11 := Lib.hid hy11
  have HX11 := Lib.hid (HX9.out.upd' ((HU910.out.mono (T := [pb, mb10]) fun b hb _ => by simp at hb; simp [hb]).trans' hu11) HNX.out fun b hb1 hb2 => by simp; omega)
  have HU11 := Lib.hid (HU10.out.new2 hu11 (by omega) (by omega))
  have hs11 := hu11.size
  clear hb11 hu11 hy11 HA10 HB10 HH10 HU10 HX9 HU910
  have b1 : (((nk : Int) + (k : Int)) != (n : Int)) = false := by have := HNK.out; rw [bne_eq_false_iff_eq]; omega
  have b2 : (((k : Int) + (nk : Int)) != (n : Int)) = false := by have := HNK.out; rw [bne_eq_false_iff_eq]; omega
  have hnk3 : nk ≤ 300 := by have := HNK.out; omega
  have hsx : ∀ j, (convert 22 9 vx).run Try.prog (w11.drewN j) = .ok (.string (strOf (S.take k))) (w11.drewN j) := fun j => (HX11.out.drewN j).str 22 5 9 Try.under22 Try.underE Try.underS
  have hsy : ∀ j, (convert 22 9 vy).run Try.prog (w11.drewN j) = .ok (.string (strOf (S.drop k))) (w11.drewN j) := fun j => (HY11.out.drewN j).str 22 5 9 Try.under22 Try.underE Try.underS
  have hsu : ∀ j, (convert 22 9 uk).run Try.prog (w11.drewN j) = .ok (.string (strOf (S.take k))) (w11.drewN j) := fun j => ((HUK.out.below HU11.out).drewN j).str 22 5 9 Try.under22 Try.underE Try.underS
  have hss : ∀ j, (convert 22 9 (.slice a n cap)).run Try.prog (w11.drewN j) = .ok (.string (strOf S)) (w11.drewN j) := fun j => ((HS.out.below HU11.out).drewN j).str 22 5 9 Try.under22 Try.underE Try.underS
  have hcat : strOf (S.take k) ++ strOf (S.drop k) = strOf S := strOf_halves S k
  have hsz : (strOf (S.take k)).size + (strOf (S.drop k)).size ≤ 9223372036854775807 := by
    have e1 : (strOf (S.take k)).size = (S.take k).length := by simp [strOf, ByteArray.size]
    have e2 : (strOf (S.drop k)).size = (S.drop k).length := by simp [strOf, ByteArray.size]
    rw [e1, e2]
    simp [HSn.out]; omega
  obtain ⟨vc, hvc, hbc⟩ := run_slice_from (P := Try.prog) Try.under22 Try.sizeU8 HS.out (k := c) (by rw [HSn.out]; exact hcn)
  obtain ⟨uc, huc, hdc⟩ := run_slice_to (P := Try.prog) Try.under22 Try.sizeU8 HS.out (k := c) (by rw [HSn.out]; exact hcn)
  have HVC := Lib.hid hbc
  have HUC := Lib.hid hdc
  obtain ⟨y, hy⟩ : ∃ y, min k c = y := ⟨_, rfl⟩
  obtain ⟨ky, hky⟩ : ∃ ky, k - y = ky := ⟨_, rfl⟩
  have hyk : y ≤ k := by omega
  have hyc : y ≤ c := by omega
  have HY := Lib.hid hy
  have HKY := Lib.hid hky
  clear hbc hdc hy hky
  by_cases hk0 : 0 < k
  · have hrd := HRD.out hk0
    subst hrd
    go_wp2_with fail
    go_quiet (fail)
    clear hsx hsy hsu hss hcat hsz b1 b2 HRD
    go_wp2_with fail
    refine (put_suf_any f0 f1 (d := c) (e := n) (y := y) (r := ky) (v := vc) (D := S.drop c) (HH11.out.drewN _) (by rw [HSn.out]; exact hn2) (Nat.zero_le c) hcn (by rw [HSn.out]; exact Nat.le_refl n) hkn HY.out HKY.out (List.take_of_length_le (by simp [HSn.out])).symm ((HVC.out.below HU11.out).drewN _)).mono ?_
    rintro e w12 ⟨mh12, rfl, hmh12, hb12, hu12⟩
    have hmh12' : w11.heap.size ≤ mh12 := hmh12
    have HH12 := Lib.hid hb12
    have HA12 := Lib.hid ((HA11.out.drewN _).upd1 hu12 (by omega) (by omega))
    have HB12 := Lib.hid ((HB11.out.drewN _).upd1 hu12 (by omega) (by omega))
    have HU12 := Lib.hid ((HU11.out.drewN _).new1 hu12 (by omega))
    have hs12 : w11.heap.size ≤ w12.heap.size := hu12.size
    have hmh12'' := hb12.mlt
    clear hb12 hu12 HA11 HB11 HH11 HU11 hmh12
    go_wp2_with fail
    refine (put_suf_0 f0 f1 (e := c) (v := uc) HH12.out (by rw [HSn.out]; exact hn2) (by rw [HSn.out]; exact hcn) hyc rfl (HUC.out.below HU12.out)).mono ?_
    rintro e w13 ⟨mh13, rfl, hmh13, hb13, hu13⟩
    have HH13 := Lib.hid hb13
    have HA13 := Lib.hid (HA12.out.upd1 hu13 (by omega) (by omega))
    have HB13 := Lib.hid (HB12.out.upd1 hu13 (by omega) (by omega))
    have HU13 := Lib.hid (HU12.out.new1 hu13 (by omega))
    have hs13 := hu13.size
    have hmh13' := hb13.mlt
    clear hb13 hu13 HA12 HB12 HH12 HU12
    have b3 : (((ky : Int) + (y : Int)) == (k : Int)) = true := by have := HKY.out; rw [beq_iff_eq]; omega
    have hky3 : ky ≤ 300 := by have := HKY.out; omega
    have hw1 : IntKind.i64.wrap (k : Int) = (k : Int) := IntWalk.i64_in _ (by omega)
    have hw2 : (ky : Int) + (y : Int) = (k : Int) := by have := HKY.out; omega
    have hw3 : ((k : Int) == (k : Int)) = true := by simp
    have HD13 := Lib.hid (HU13.out.drewN 1)
    have HD13H := Lib.hid (show IsBuf w13.drew ph mh13 (sufRB first S 0 0) from HH13.out.drewN 1)
    have HD13A := Lib.hid (show IsBuf w13.drew pa ma7 (sufRB first S 0 0) from HA13.out.drewN 1)
    have HD13B := Lib.hid (show IsBuf w13.drew pb mb10 (sufRB first S n n) from HB13.out.drewN 1)
    go_wp2_with fail
    refine wp_region_held_drew (S := fun w' => (convert 22 9 (.slice a n cap)).run Try.prog w' = .ok (.string (strOf S)) w') (by kernel_rfl) ?_ (fun hHeld0 => ?_)
    · exact (HS.out.below HD13.out).str 22 5 9 Try.under22 Try.underE Try.underS
    refine takeH (i := 0) (oi := _) (v := ?_) rfl (by kernel_rfl) (by kernel_rfl) (by kernel_rfl) (fun _ _ _ h => h) (Or.inl ⟨by rfl, ?_⟩) (by assumption) ?_
    rotate_left
    · (intro w0 hSw; go_simp; with_reducible rfl)
    try simp only [Act.put, List.setIfInBounds_toArray, List.set_cons_zero, List.set_cons_succ]
    refine takeH (i := 1) (oi := _) (v := ?_) rfl (by kernel_rfl) (by kernel_rfl) (by kernel_rfl) (fun _ _ _ h => h) (Or.inl ⟨by rfl, ?_⟩) (by assumption) ?_
    rotate_left
    · (intro w0 hSw; go_simp; with_reducible rfl)
    try simp only [Act.put, List.setIfInBounds_toArray, List.set_cons_zero, List.set_cons_succ]
    refine takeH (i := 2) (oi := _) (v := ?_) rfl (by kernel_rfl) (by kernel_rfl) (by kernel_rfl) (fun _ _ _ h => h) (Or.inl ⟨by rfl, ?_⟩) (by assumption) ?_
    rotate_left
    · (intro w0 hSw; go_simp; with_reducible rfl)
    try simp only [Act.put, List.setIfInBounds_toArray, List.set_cons_zero, List.set_cons_succ]
    refine takeH (i := 3) (oi := _) (v := ?_) rfl (by kernel_rfl) (by kernel_rfl) (by kernel_rfl) (fun _ _ _ h => h) (Or.inl ⟨by rfl, ?_⟩) (by assumption) ?_
    rotate_left
    · (intro w0 hSw; go_simp; with_reducible rfl)
    try simp only [Act.put, List.setIfInBounds_toArray, List.set_cons_zero, List.set_cons_succ]
    refine takeH (i := 4) (oi := _) (v := ?_) rfl (by kernel_rfl) (by kernel_rfl) (by kernel_rfl) (fun _ _ _ h => h) (Or.inl ⟨by rfl, ?_⟩) (by assumption) ?_
    rotate_left
    · (intro w0 hSw; go_simp; with_reducible rfl)
    try simp only [Act.put, List.setIfInBounds_toArray, List.set_cons_zero, List.set_cons_succ]
    refine takeH (i := 5) (oi := _) (v := ?_) rfl (by kernel_rfl) (by kernel_rfl) (by kernel_rfl) (fun _ _ _ h => h) (Or.inl ⟨by rfl, ?_⟩) (by assumption) ?_
    rotate_left
    · (intro w0 hSw; go_simp; with_reducible rfl)
    try simp only [Act.put, List.setIfInBounds_toArray, List.set_cons_zero, List.set_cons_succ]
    refine takeH (i := 6) (oi := _) (v := ?_) rfl (by kernel_rfl) (by kernel_rfl) (by kernel_rfl) (fun _ _ _ h => h) (Or.inl ⟨by rfl, ?_⟩) (by assumption) ?_
    rotate_left
    · (intro w0 hSw; go_simp; with_reducible rfl)
    try simp only [Act.put, List.setIfInBounds_toArray, List.set_cons_zero, List.set_cons_succ]
    refine takeH (i := 7) (oi := _) (v := ?_) rfl (by kernel_rfl) (by kernel_rfl) (by kernel_rfl) (fun _ _ _ h => h) (Or.inl ⟨by rfl, ?_⟩) (by assumption) ?_
    rotate_left
    · (intro w0 hSw; go_simp; with_reducible rfl)
    try simp only [Act.put, List.setIfInBounds_toArray, List.set_cons_zero, List.set_cons_succ]
    refine takeH (i := 8) (oi := _) (v := ?_) rfl (by kernel_rfl) (by kernel_rfl) (by kernel_rfl) (fun _ _ _ h => h) (Or.inl ⟨by rfl, ?_⟩) (by assumption) ?_
    rotate_left
    · (intro w0 hSw; go_simp; with_reducible rfl)
    try simp only [Act.put, List.setIfInBounds_toArray, List.set_cons_zero, List.set_cons_succ]
    refine takeH (i := 9) (oi := _) (v := ?_) rfl (by kernel_rfl) (by kernel_rfl) (by kernel_rfl) (fun _ _ _ h => h) (Or.inl ⟨by rfl, ?_⟩) (by assumption) ?_
    rotate_left
    · (intro w0 hSw; go_simp; with_reducible rfl)
    try simp only [Act.put, List.setIfInBounds_toArray, List.set_cons_zero, List.set_cons_succ]
    refine takeH (i := 10) (oi := _) (v := ?_) rfl (by kernel_rfl) (by kernel_rfl) (by kernel_rfl) (fun _ _ _ h => h) (Or.inl ⟨by rfl, ?_⟩) (by assumption) ?_
    rotate_left
    · (intro w0 hSw; go_simp; with_reducible rfl)
    try simp only [Act.put, List.setIfInBounds_toArray, List.set_cons_zero, List.set_cons_succ]
    refine takeH (i := 11) (oi := _) (v := ?_) rfl (by kernel_rfl) (by kernel_rfl) (by kernel_rfl) (fun _ _ _ h => h) (Or.inl ⟨by rfl, ?_⟩) (by assumption) ?_
    rotate_left
    · (intro w0 hSw; go_simp; with_reducible rfl)
    try simp only [Act.put, List.setIfInBounds_toArray, List.set_cons_zero, List.set_cons_succ]
    refine takeH (i := 12) (oi := _) (v := ?_) rfl (by kernel_rfl) (by kernel_rfl) (by kernel_rfl) (fun _ _ _ h => h) (Or.inl ⟨by rfl, ?_⟩) (by assumption) ?_
    rotate_left
    · (intro w0 hSw; go_simp; with_reducible rfl)
    try simp only [Act.put, List.setIfInBounds_toArray, List.set_cons_zero, List.set_cons_succ]
    refine takeH (i := 13) (oi := _) (v := ?_) rfl (by kernel_rfl) (by kernel_rfl) (by kernel_rfl) (fun _ _ _ h => h) (Or.inl ⟨by rfl, ?_⟩) (by assumption) ?_
    rotate_left
    · (intro w0 hSw; go_simp; with_reducible rfl)
    try simp only [Act.put, List.setIfInBounds_toArray, List.set_cons_zero, List.set_cons_succ]
    refine takeH (i := 14) (oi := _) (v := ?_) rfl (by kernel_rfl) (by kernel_rfl) (by kernel_rfl) (fun _ _ _ h => h) (Or.inl ⟨by rfl, ?_⟩) (by assumption) ?_
    rotate_left
    · (intro w0 hSw; go_simp; with_reducible rfl)
    try simp only [Act.put, List.setIfInBounds_toArray, List.set_cons_zero, List.set_cons_succ]
    refine takeH (i := 17) (oi := _) (v := ?_) rfl (by kernel_rfl) (by kernel_rfl) (by kernel_rfl) (fun _ _ _ h => h) (Or.inl ⟨by rfl, ?_⟩) (by assumption) ?_
    rotate_left
    · (intro w0 hSw; go_simp; with_reducible rfl)
    try simp only [Act.put, List.setIfInBounds_toArray, List.set_cons_zero, List.set_cons_succ]
    refine takeH (i := 18) (oi := _) (v := ?_) rfl (by kernel_rfl) (by kernel_rfl) (by kernel_rfl) (fun _ _ _ h => h) (Or.inl ⟨by rfl, ?_⟩) (by assumption) ?_
    rotate_left
    · (intro w0 hSw; go_simp; with_reducible rfl)
    try simp only [Act.put, List.setIfInBounds_toArray, List.set_cons_zero, List.set_cons_succ]
    refine readyH (i := 15) (o := _) rfl (by kernel_rfl) (fun K hK => ?_)
    go_simp
    refine (take_suf (w := w13.drew) HD13H.out (Nat.zero_le _) (Nat.le_refl 0)).mono ?_
    rintro e w14 ⟨vh, rfl, hx14, hb14, hu14, hn14⟩
    rw [List.drop_zero] at hx14
    have HU14 := Lib.hid (HD13.out.new2 hu14 (by omega) (by omega))
    have HH14 := Lib.hid (show IsBuf w14 ph mh13 (sufRB first S n n) by rw [HSn.out] at hb14; exact hb14)
    have HA14 := Lib.hid (HD13A.out.upd2 hu14 (by omega) (by omega) (by omega) (by omega))
    have HB14 := Lib.hid (HD13B.out.upd2 hu14 (by omega) (by omega) (by omega) (by omega))
    have HX14 := Lib.hid hx14
    have HN14 := Lib.hid hn14
    have hs14 : w13.heap.size ≤ w14.heap.size := hu14.size
    clear hx14 hb14 hu14 hn14
    go_wp2_with fail
    refine hK.out _ _ ?_ (fun hHeld1 => ?_)
    · (exact (HS.out.below HU14.out).str 22 5 9 Try.under22 Try.underE Try.underS)
    clear hK K
    try simp only [Act.put, List.setIfInBounds_toArray, List.set_cons_zero, List.set_cons_succ]
    refine wpAnyH_mono (S' := fun w' => (convert 22 9 (.slice a n cap)).run Try.prog w' = .ok (.string (strOf S)) w' ∧ (convert 22 9 vh).run Try.prog w' = .ok (.string (strOf S)) w') (fun _ h => h.1) ?_
    have hHeld1b : (fun w' => (convert 22 9 (.slice a n cap)).run Try.prog w' = .ok (.string (strOf S)) w' ∧ (convert 22 9 vh).run Try.prog w' = .ok (.string (strOf S)) w') w14 := ⟨hHeld1, HX14.out.str 22 5 9 Try.under22 Try.underE Try.underS⟩
    clear hHeld0 hHeld1
    refine takeH (i := 16) (oi := _) (v := ?_) rfl (by kernel_rfl) (by kernel_rfl) (by kernel_rfl) (fun _ _ _ h => h) (Or.inl ⟨by rfl, ?_⟩) (by assumption) ?_
    rotate_left
    · (intro w0 hSw; obtain ⟨hSw, hSw2⟩ := hSw; go_simp; with_reducible rfl)
    try simp only [Act.put, List.setIfInBounds_toArray, List.set_cons_zero, List.set_cons_succ]
    refine takeH (i := 19) (oi := _) (v := ?_) rfl (by kernel_rfl) (by kernel_rfl) (by kernel_rfl) (fun _ _ _ h => h) (Or.inl ⟨by rfl, ?_⟩) (by assumption) ?_
    rotate_left
    · (intro w0 hSw; obtain ⟨hSw, hSw2⟩ := hSw; go_simp; with_reducible rfl)
    try simp only [Act.put, List.setIfInBounds_toArray, List.set_cons_zero, List.set_cons_succ]
    refine takeH (i := 20) (oi := _) (v := ?_) rfl (by kernel_rfl) (by kernel_rfl) (by kernel_rfl) (fun _ _ _ h => h) (Or.inl ⟨by rfl, ?_⟩) (by assumption) ?_
    rotate_left
    · (intro w0 hSw; obtain ⟨hSw, hSw2⟩ := hSw; go_simp; with_reducible rfl)
    try simp only [Act.put, List.setIfInBounds_toArray, List.set_cons_zero, List.set_cons_succ]
    refine takeH (i := 21) (oi := _) (v := ?_) rfl (by kernel_rfl) (by kernel_rfl) (by kernel_rfl) (fun _ _ _ h => h) (Or.inl ⟨by rfl, ?_⟩) (by assumption) ?_
    rotate_left
    · (intro w0 hSw; obtain ⟨hSw, hSw2⟩ := hSw; go_simp; with_reducible rfl)
    try simp only [Act.put, List.setIfInBounds_toArray, List.set_cons_zero, List.set_cons_succ]
    refine takeH (i := 22) (oi := _) (v := ?_) rfl (by kernel_rfl) (by kernel_rfl) (by kernel_rfl) (fun _ _ _ h => h) (Or.inl ⟨by rfl, ?_⟩) (by assumption) ?_
    rotate_left
    · (intro w0 hSw; obtain ⟨hSw, hSw2⟩ := hSw; go_simp; with_reducible rfl)
    try simp only [Act.put, List.setIfInBounds_toArray, List.set_cons_zero, List.set_cons_succ]
    refine takeH (i := 25) (oi := _) (v := ?_) rfl (by kernel_rfl) (by kernel_rfl) (by kernel_rfl) (fun _ _ _ h => h) (Or.inl ⟨by rfl, ?_⟩) (by assumption) ?_
    rotate_left
    · (intro w0 hSw; obtain ⟨hSw, hSw2⟩ := hSw; go_simp; with_reducible rfl)
    try simp only [Act.put, List.setIfInBounds_toArray, List.set_cons_zero, List.set_cons_succ]
    refine takeH (i := 26) (oi := _) (v := ?_) rfl (by kernel_rfl) (by kernel_rfl) (by kernel_rfl) (fun _ _ _ h => h) (Or.inl ⟨by rfl, ?_⟩) (by assumption) ?_
    rotate_left
    · (intro w0 hSw; obtain ⟨hSw, hSw2⟩ := hSw; go_simp; with_reducible rfl)
    try simp only [Act.put, List.setIfInBounds_toArray, List.set_cons_zero, List.set_cons_succ]
    refine readyH (i := 23) (o := _) rfl (by kernel_rfl) (fun K hK => ?_)
    go_simp
    refine (take_suf (w := w14) HA14.out (Nat.zero_le _) (Nat.le_refl 0)).mono ?_
    rintro e w15 ⟨va, rfl, hx15, hb15, hu15, hn15⟩
    rw [List.drop_zero] at hx15
    have HU15 := Lib.hid (HU14.out.new2 hu15 (by omega) (by omega))
    have HA15 := Lib.hid (show IsBuf w15 pa ma7 (sufRB first S n n) by rw [HSn.out] at hb15; exact hb15)
    have HH15 := Lib.hid (HH14.out.upd2 hu15 (by omega) (by omega) (by omega) (by omega))
    have HB15 := Lib.hid (HB14.out.upd2 hu15 (by omega) (by omega) (by omega) (by omega))
    have HX15 := Lib.hid (HX14.out.upd' hu15 HN14.out fun b hb1 hb2 => by have hb3 : w13.heap.size ≤ b := hb1; simp; omega)
    have HY15 := Lib.hid hx15
    clear hx15 hb15 hu15 hn15
    go_wp2_with fail
    refine hK.out _ _ ?_ (fun hHeld2 => ?_)
    · (exact ⟨(HS.out.below HU15.out).str 22 5 9 Try.under22 Try.underE Try.underS, HX15.out.str 22 5 9 Try.under22 Try.underE Try.underS⟩)
    clear hK K
    try simp only [Act.put, List.setIfInBounds_toArray, List.set_cons_zero, List.set_cons_succ]
    refine wpAnyH_mono (S' := fun w' => ((convert 22 9 (.slice a n cap)).run Try.prog w' = .ok (.string (strOf S)) w' ∧ (convert 22 9 vh).run Try.prog w' = .ok (.string (strOf S)) w') ∧ (convert 22 9 va).run Try.prog w' = .ok (.string (strOf S)) w') (fun _ h => h.1) ?_
    have hHeld2b : (fun w' => ((convert 22 9 (.slice a n cap)).run Try.prog w' = .ok (.string (strOf S)) w' ∧ (convert 22 9 vh).run Try.prog w' = .ok (.string (strOf S)) w') ∧ (convert 22 9 va).run Try.prog w' = .ok (.string (strOf S)) w') w15 := ⟨hHeld2, HY15.out.str 22 5 9 Try.under22 Try.underE Try.underS⟩
    clear hHeld1b hHeld2
    refine takeH (i := 24) (oi := _) (v := ?_) rfl (by kernel_rfl) (by kernel_rfl) (by kernel_rfl) (fun _ _ _ h => h) (Or.inl ⟨by rfl, ?_⟩) (by assumption) ?_
    rotate_left
    · (intro w0 hSw; obtain ⟨⟨hSw, hSw2⟩, hSw3⟩ := hSw; go_simp; with_reducible rfl)
    try simp only [Act.put, List.setIfInBounds_toArray, List.set_cons_zero, List.set_cons_succ]
    refine takeH (i := 27) (oi := _) (v := ?_) rfl (by kernel_rfl) (by kernel_rfl) (by kernel_rfl) (fun _ _ _ h => h) (Or.inl ⟨by rfl, ?_⟩) (by assumption) ?_
    rotate_left
    · (intro w0 hSw; obtain ⟨⟨hSw, hSw2⟩, hSw3⟩ := hSw; go_simp; with_reducible rfl)
    try simp only [Act.put, List.setIfInBounds_toArray, List.set_cons_zero, List.set_cons_succ]
    refine takeH (i := 28) (oi := _) (v := ?_) rfl (by kernel_rfl) (by kernel_rfl) (by kernel_rfl) (fun _ _ _ h => h) (Or.inl ⟨by rfl, ?_⟩) (by assumption) ?_
    rotate_left
    · (intro w0 hSw; obtain ⟨⟨hSw, hSw2⟩, hSw3⟩ := hSw; go_simp; with_reducible rfl)
    try simp only [Act.put, List.setIfInBounds_toArray, List.set_cons_zero, List.set_cons_succ]
    refine takeH (i := 29) (oi := _) (v := ?_) rfl (by kernel_rfl) (by kernel_rfl) (by kernel_rfl) (fun _ _ _ h => h) (Or.inl ⟨by rfl, ?_⟩) (by assumption) ?_
    rotate_left
    · (intro w0 hSw; obtain ⟨⟨hSw, hSw2⟩, hSw3⟩ := hSw; go_simp; with_reducible rfl)
    try simp only [Act.put, List.setIfInBounds_toArray, List.set_cons_zero, List.set_cons_succ]
    refine takeH (i := 30) (oi := _) (v := ?_) rfl (by kernel_rfl) (by kernel_rfl) (by kernel_rfl) (fun _ _ _ h => h) (Or.inl ⟨by rfl, ?_⟩) (by assumption) ?_
    rotate_left
    · (intro w0 hSw; obtain ⟨⟨hSw, hSw2⟩, hSw3⟩ := hSw; go_simp; with_reducible rfl)
    try simp only [Act.put, List.setIfInBounds_toArray, List.set_cons_zero, List.set_cons_succ]
    refine takeH (i := 32) (oi := _) (v := ?_) rfl (by kernel_rfl) (by kernel_rfl) (by kernel_rfl) (fun _ _ _ h => h) (Or.inl ⟨by rfl, ?_⟩) (by assumption) ?_
    rotate_left
    · (intro w0 hSw; obtain ⟨⟨hSw, hSw2⟩, hSw3⟩ := hSw; go_simp; with_reducible rfl)
    try simp only [Act.put, List.setIfInBounds_toArray, List.set_cons_zero, List.set_cons_succ]
    refine readyH (i := 31) (o := _) rfl (by kernel_rfl) (fun K hK => ?_)
    go_simp
    refine (next_any (B := sufRB first S n n) HA15.out).mono ?_
    rintro e w' ⟨rfl, rfl⟩
    go_wp2_with fail
    refine hK.out _ _ ?_ (fun hHeld3 => ?_)
    · (exact ⟨⟨(HS.out.below HU15.out).str 22 5 9 Try.under22 Try.underE Try.underS, HX15.out.str 22 5 9 Try.under22 Try.underE Try.underS⟩, HY15.out.str 22 5 9 Try.under22 Try.underE Try.underS⟩)
    clear hK K
    try simp only [Act.put, List.setIfInBounds_toArray, List.set_cons_zero, List.set_cons_succ]
    refine readyH (i := 33) (o := _) rfl (by kernel_rfl) (fun K hK => ?_)
    go_simp
    refine (next_any (B := sufRB first S n n) HB15.out).mono ?_
    rintro e w' ⟨rfl, rfl⟩
    go_wp2_with fail
    refine hK.out _ _ ?_ (fun hHeld4 => ?_)
    · (exact ⟨⟨(HS.out.below HU15.out).str 22 5 9 Try.under22 Try.underE Try.underS, HX15.out.str 22 5 9 Try.under22 Try.underE Try.underS⟩, HY15.out.str 22 5 9 Try.under22 Try.underE Try.underS⟩)
    clear hK K
    try simp only [Act.put, List.setIfInBounds_toArray, List.set_cons_zero, List.set_cons_succ]
    refine takeH (i := 34) (oi := _) (v := ?_) rfl (by kernel_rfl) (by kernel_rfl) (by kernel_rfl) (fun _ _ _ h => h) (Or.inl ⟨by rfl, ?_⟩) (by assumption) ?_
    rotate_left
    · (intro w0 hSw; obtain ⟨⟨hSw, hSw2⟩, hSw3⟩ := hSw; go_simp; with_reducible rfl)
    try simp only [Act.put, List.setIfInBounds_toArray, List.set_cons_zero, List.set_cons_succ]
    refine takeH (i := 35) (oi := _) (v := ?_) rfl (by kernel_rfl) (by kernel_rfl) (by kernel_rfl) (fun _ _ _ h => h) (Or.inl ⟨by rfl, ?_⟩) (by assumption) ?_
    rotate_left
    · (intro w0 hSw; obtain ⟨⟨hSw, hSw2⟩, hSw3⟩ := hSw; go_simp; with_reducible rfl)
    try simp only [Act.put, List.setIfInBounds_toArray, List.set_cons_zero, List.set_cons_succ]
    refine takeH (i := 36) (oi := _) (v := ?_) rfl (by kernel_rfl) (by kernel_rfl) (by kernel_rfl) (fun _ _ _ h => h) (Or.inl ⟨by rfl, ?_⟩) (by assumption) ?_
    rotate_left
    · (intro w0 hSw; obtain ⟨⟨hSw, hSw2⟩, hSw3⟩ := hSw; go_simp; with_reducible rfl)
    try simp only [Act.put, List.setIfInBounds_toArray, List.set_cons_zero, List.set_cons_succ]
    refine takeH (i := 37) (oi := _) (v := ?_) rfl (by kernel_rfl) (by kernel_rfl) (by kernel_rfl) (fun _ _ _ h => h) (Or.inl ⟨by rfl, ?_⟩) (by assumption) ?_
    rotate_left
    · (intro w0 hSw; obtain ⟨⟨hSw, hSw2⟩, hSw3⟩ := hSw; go_simp; with_reducible rfl)
    try simp only [Act.put, List.setIfInBounds_toArray, List.set_cons_zero, List.set_cons_succ]
    refine takeH (i := 39) (oi := _) (v := ?_) rfl (by kernel_rfl) (by kernel_rfl) (by kernel_rfl) (fun _ _ _ h => h) (Or.inl ⟨by rfl, ?_⟩) (by assumption) ?_
    rotate_left
    · (intro w0 hSw; obtain ⟨⟨hSw, hSw2⟩, hSw3⟩ := hSw; go_simp; with_reducible rfl)
    try simp only [Act.put, List.setIfInBounds_toArray, List.set_cons_zero, List.set_cons_succ]
    refine readyH (i := 38) (o := _) rfl (by kernel_rfl) (fun K hK => ?_)
    go_simp
    refine (room_any (B := sufRB first S n n) HA15.out).mono ?_
    rintro e w' ⟨rfl, qa, rfl⟩
    go_wp2_with fail
    refine hK.out _ _ ?_ (fun hHeld5 => ?_)
    · (exact ⟨⟨(HS.out.below (HU15.out.drewN _)).str 22 5 9 Try.under22 Try.underE Try.underS, (HX15.out.drewN _).str 22 5 9 Try.under22 Try.underE Try.underS⟩, (HY15.out.drewN _).str 22 5 9 Try.under22 Try.underE Try.underS⟩)
    clear hK K
    try simp only [Act.put, List.setIfInBounds_toArray, List.set_cons_zero, List.set_cons_succ]
    refine readyH (i := 40) (o := _) rfl (by kernel_rfl) (fun K hK => ?_)
    go_simp
    refine (room_any (B := sufRB first S n n) (HB15.out.drewN _)).mono ?_
    rintro e w' ⟨rfl, qb, rfl⟩
    go_wp2_with fail
    refine hK.out _ _ ?_ (fun hHeld6 => ?_)
    · (exact ⟨⟨(HS.out.below (HU15.out.drewN _)).str 22 5 9 Try.under22 Try.underE Try.underS, (HX15.out.drewN _).str 22 5 9 Try.under22 Try.underE Try.underS⟩, (HY15.out.drewN _).str 22 5 9 Try.under22 Try.underE Try.underS⟩)
    clear hK K
    try simp only [Act.put, List.setIfInBounds_toArray, List.set_cons_zero, List.set_cons_succ]
    refine takeH (i := 41) (oi := _) (v := ?_) rfl (by kernel_rfl) (by kernel_rfl) (by kernel_rfl) (fun _ _ _ h => h) (Or.inl ⟨by rfl, ?_⟩) (by assumption) ?_
    rotate_left
    · (intro w0 hSw; obtain ⟨⟨hSw, hSw2⟩, hSw3⟩ := hSw; go_simp; with_reducible rfl)
    try simp only [Act.put, List.setIfInBounds_toArray, List.set_cons_zero, List.set_cons_succ]
    refine takeH (i := 42) (oi := _) (v := ?_) rfl (by kernel_rfl) (by kernel_rfl) (by kernel_rfl) (fun _ _ _ h => h) (Or.inl ⟨by rfl, ?_⟩) (by assumption) ?_
    rotate_left
    · (intro w0 hSw; obtain ⟨⟨hSw, hSw2⟩, hSw3⟩ := hSw; go_simp; with_reducible rfl)
    try simp only [Act.put, List.setIfInBounds_toArray, List.set_cons_zero, List.set_cons_succ]
    refine takeH (i := 43) (oi := _) (v := ?_) rfl (by kernel_rfl) (by kernel_rfl) (by kernel_rfl) (fun _ _ _ h => h) (Or.inl ⟨by rfl, ?_⟩) (by assumption) ?_
    rotate_left
    · (intro w0 hSw; obtain ⟨⟨hSw, hSw2⟩, hSw3⟩ := hSw; go_simp; with_reducible rfl)
    try simp only [Act.put, List.setIfInBounds_toArray, List.set_cons_zero, List.set_cons_succ]
    refine takeH (i := 44) (oi := _) (v := ?_) rfl (by kernel_rfl) (by kernel_rfl) (by kernel_rfl) (fun _ _ _ h => h) (Or.inl ⟨by rfl, ?_⟩) (by assumption) ?_
    rotate_left
    · (intro w0 hSw; obtain ⟨⟨hSw, hSw2⟩, hSw3⟩ := hSw; go_simp; with_reducible rfl)
    try simp only [Act.put, List.setIfInBounds_toArray, List.set_cons_zero, List.set_cons_succ]
    refine takeH (i := 46) (oi := _) (v := ?_) rfl (by kernel_rfl) (by kernel_rfl) (by kernel_rfl) (fun _ _ _ h => h) (Or.inl ⟨by rfl, ?_⟩) (by assumption) ?_
    rotate_left
    · (intro w0 hSw; obtain ⟨⟨hSw, hSw2⟩, hSw3⟩ := hSw; go_simp; with_reducible rfl)
    try simp only [Act.put, List.setIfInBounds_toArray, List.set_cons_zero, List.set_cons_succ]
    refine readyH (i := 45) (o := _) rfl (by kernel_rfl) (fun K hK => ?_)
    go_simp
    refine (next_any (B := sufRB first S n n) (HA15.out.drewN _)).mono ?_
    rintro e w' ⟨rfl, rfl⟩
    go_wp2_with fail
    refine hK.out _ _ ?_ (fun hHeld7 => ?_)
    · (exact ⟨⟨(HS.out.below (HU15.out.drewN _)).str 22 5 9 Try.under22 Try.underE Try.underS, (HX15.out.drewN _).str 22 5 9 Try.under22 Try.underE Try.underS⟩, (HY15.out.drewN _).str 22 5 9 Try.under22 Try.underE Try.underS⟩)
    clear hK K
    try simp only [Act.put, List.setIfInBounds_toArray, List.set_cons_zero, List.set_cons_succ]
    refine readyH (i := 47) (o := _) rfl (by kernel_rfl) (fun K hK => ?_)
    go_simp
    refine (next_any (B := sufRB first S n n) (HH15.out.drewN _)).mono ?_
    rintro e w' ⟨rfl, rfl⟩
    go_wp2_with fail
    refine hK.out _ _ ?_ (fun hHeld8 => ?_)
    · (exact ⟨⟨(HS.out.below (HU15.out.drewN _)).str 22 5 9 Try.under22 Try.underE Try.underS, (HX15.out.drewN _).str 22 5 9 Try.under22 Try.underE Try.underS⟩, (HY15.out.drewN _).str 22 5 9 Try.under22 Try.underE Try.underS⟩)
    clear hK K
    try simp only [Act.put, List.setIfInBounds_toArray, List.set_cons_zero, List.set_cons_succ]
    refine takeH (i := 48) (oi := _) (v := ?_) rfl (by kernel_rfl) (by kernel_rfl) (by kernel_rfl) (fun _ _ _ h => h) (Or.inl ⟨by rfl, ?_⟩) (by assumption) ?_
    rotate_left
    · (intro w0 hSw; obtain ⟨⟨hSw, hSw2⟩, hSw3⟩ := hSw; go_simp; with_reducible rfl)
    try simp only [Act.put, List.setIfInBounds_toArray, List.set_cons_zero, List.set_cons_succ]
    refine takeH (i := 49) (oi := _) (v := ?_) rfl (by kernel_rfl) (by kernel_rfl) (by kernel_rfl) (fun _ _ _ h => h) (Or.inl ⟨by rfl, ?_⟩) (by assumption) ?_
    rotate_left
    · (intro w0 hSw; obtain ⟨⟨hSw, hSw2⟩, hSw3⟩ := hSw; go_simp; with_reducible rfl)
    try simp only [Act.put, List.setIfInBounds_toArray, List.set_cons_zero, List.set_cons_succ]
    refine takeH (i := 50) (oi := _) (v := ?_) rfl (by kernel_rfl) (by kernel_rfl) (by kernel_rfl) (fun _ _ _ h => h) (Or.inl ⟨by rfl, ?_⟩) (by assumption) ?_
    rotate_left
    · (intro w0 hSw; obtain ⟨⟨hSw, hSw2⟩, hSw3⟩ := hSw; go_simp; with_reducible rfl)
    try simp only [Act.put, List.setIfInBounds_toArray, List.set_cons_zero, List.set_cons_succ]
    refine readyH (i := 51) (o := _) rfl (by kernel_rfl) (fun K hK => ?_)
    go_simp
    refine (wakes18_any _).mono ?_
    rintro e w17 ⟨rfl, hu17⟩
    have HU17 := Lib.hid ((HU15.out.drewN (qa + qb)).trans' hu17)
    have HX17 := Lib.hid (HX15.out.below (((Upd.refl [] w15).drewN (qa + qb)).trans' hu17))
    have HY17 := Lib.hid (HY15.out.below (((Upd.refl [] w15).drewN (qa + qb)).trans' hu17))
    clear hu17
    go_wp2_with fail
    refine hK.out _ _ ?_ (fun hHeld9 => ?_)
    · (exact ⟨⟨(HS.out.below HU17.out).str 22 5 9 Try.under22 Try.underE Try.underS, HX17.out.str 22 5 9 Try.under22 Try.underE Try.underS⟩, HY17.out.str 22 5 9 Try.under22 Try.underE Try.underS⟩)
    clear hK K
    try simp only [Act.put, List.setIfInBounds_toArray, List.set_cons_zero, List.set_cons_succ]
    refine takeH (i := 52) (oi := _) (v := ?_) rfl (by kernel_rfl) (by kernel_rfl) (by kernel_rfl) (fun _ _ _ h => h) (Or.inl ⟨by rfl, ?_⟩) (by assumption) ?_
    rotate_left
    · (intro w0 hSw; obtain ⟨⟨hSw, hSw2⟩, hSw3⟩ := hSw; go_simp; with_reducible rfl)
    try simp only [Act.put, List.setIfInBounds_toArray, List.set_cons_zero, List.set_cons_succ]
    refine takeH (i := 53) (oi := _) (v := ?_) rfl (by kernel_rfl) (by kernel_rfl) (by kernel_rfl) (fun _ _ _ h => h) (Or.inl ⟨by rfl, ?_⟩) (by assumption) ?_
    rotate_left
    · (intro w0 hSw; obtain ⟨⟨hSw, hSw2⟩, hSw3⟩ := hSw; go_simp; with_reducible rfl)
    try simp only [Act.put, List.setIfInBounds_toArray, List.set_cons_zero, List.set_cons_succ]
    refine wpAnyH_done (by kernel_rfl) ?_ _
    all_goals (go_wp2_with fail; go_ret; exact ⟨rfl, HU1.out.trans' HU17.out⟩)
  · have hk1 : decide ((0 : Int) < (k : Int)) = false := by rw [decide_eq_false_iff_not]; omega
    go_wp2_with fail
    go_quiet (fail)
    clear hsx hsy hsu hss hcat hsz b1 b2 HRD
    go_wp2_with fail
    refine (put_suf_any f0 f1 (d := c) (e := n) (y := y) (r := ky) (v := vc) (D := S.drop c) (HH11.out.drewN _) (by rw [HSn.out]; exact hn2) (Nat.zero_le c) hcn (by rw [HSn.out]; exact Nat.le_refl n) hkn HY.out HKY.out (List.take_of_length_le (by simp [HSn.out])).symm ((HVC.out.below HU11.out).drewN _)).mono ?_
    rintro e w12 ⟨mh12, rfl, hmh12, hb12, hu12⟩
    have hmh12' : w11.heap.size ≤ mh12 := hmh12
    have HH12 := Lib.hid hb12
    have HA12 := Lib.hid ((HA11.out.drewN _).upd1 hu12 (by omega) (by omega))
    have HB12 := Lib.hid ((HB11.out.drewN _).upd1 hu12 (by omega) (by omega))
    have HU12 := Lib.hid ((HU11.out.drewN _).new1 hu12 (by omega))
    have hs12 : w11.heap.size ≤ w12.heap.size := hu12.size
    have hmh12'' := hb12.mlt
    clear hb12 hu12 HA11 HB11 HH11 HU11 hmh12
    go_wp2_with fail
    refine (put_suf_0 f0 f1 (e := c) (v := uc) HH12.out (by rw [HSn.out]; exact hn2) (by rw [HSn.out]; exact hcn) hyc rfl (HUC.out.below HU12.out)).mono ?_
    rintro e w13 ⟨mh13, rfl, hmh13, hb13, hu13⟩
    have HH13 := Lib.hid hb13
    have HA13 := Lib.hid (HA12.out.upd1 hu13 (by omega) (by omega))
    have HB13 := Lib.hid (HB12.out.upd1 hu13 (by omega) (by omega))
    have HU13 := Lib.hid (HU12.out.new1 hu13 (by omega))
    have hs13 := hu13.size
    have hmh13' := hb13.mlt
    clear hb13 hu13 HA12 HB12 HH12 HU12
    have b3 : (((ky : Int) + (y : Int)) == (k : Int)) = true := by have := HKY.out; rw [beq_iff_eq]; omega
    have hky3 : ky ≤ 300 := by have := HKY.out; omega
    have hw1 : IntKind.i64.wrap (k : Int) = (k : Int) := IntWalk.i64_in _ (by omega)
    have hw2 : (ky : Int) + (y : Int) = (k : Int) := by have := HKY.out; omega
    have hw3 : ((k : Int) == (k : Int)) = true := by simp
    have HD13 := Lib.hid (HU13.out.drewN 1)
    have HD13H := Lib.hid (show IsBuf w13.drew ph mh13 (sufRB first S 0 0) from HH13.out.drewN 1)
    have HD13A := Lib.hid (show IsBuf w13.drew pa ma7 (sufRB first S 0 0) from HA13.out.drewN 1)
    have HD13B := Lib.hid (show IsBuf w13.drew pb mb10 (sufRB first S n n) from HB13.out.drewN 1)
    go_wp2_with fail
    refine wp_region_held_drew (S := fun w' => (convert 22 9 (.slice a n cap)).run Try.prog w' = .ok (.string (strOf S)) w') (by kernel_rfl) ?_ (fun hHeld0 => ?_)
    · exact (HS.out.below HD13.out).str 22 5 9 Try.under22 Try.underE Try.underS
    refine takeH (i := 0) (oi := _) (v := ?_) rfl (by kernel_rfl) (by kernel_rfl) (by kernel_rfl) (fun _ _ _ h => h) (Or.inl ⟨by rfl, ?_⟩) (by assumption) ?_
    rotate_left
    · (intro w0 hSw; go_simp; with_reducible rfl)
    try simp only [Act.put, List.setIfInBounds_toArray, List.set_cons_zero, List.set_cons_succ]
    refine takeH (i := 1) (oi := _) (v := ?_) rfl (by kernel_rfl) (by kernel_rfl) (by kernel_rfl) (fun _ _ _ h => h) (Or.inl ⟨by rfl, ?_⟩) (by assumption) ?_
    rotate_left
    · (intro w0 hSw; go_simp; with_reducible rfl)
    try simp only [Act.put, List.setIfInBounds_toArray, List.set_cons_zero, List.set_cons_succ]
    refine takeH (i := 2) (oi := _) (v := ?_) rfl (by kernel_rfl) (by kernel_rfl) (by kernel_rfl) (fun _ _ _ h => h) (Or.inl ⟨by rfl, ?_⟩) (by assumption) ?_
    rotate_left
    · (intro w0 hSw; go_simp; with_reducible rfl)
    try simp only [Act.put, List.setIfInBounds_toArray, List.set_cons_zero, List.set_cons_succ]
    refine takeH (i := 3) (oi := _) (v := ?_) rfl (by kernel_rfl) (by kernel_rfl) (by kernel_rfl) (fun _ _ _ h => h) (Or.inl ⟨by rfl, ?_⟩) (by assumption) ?_
    rotate_left
    · (intro w0 hSw; go_simp; with_reducible rfl)
    try simp only [Act.put, List.setIfInBounds_toArray, List.set_cons_zero, List.set_cons_succ]
    refine takeH (i := 4) (oi := _) (v := ?_) rfl (by kernel_rfl) (by kernel_rfl) (by kernel_rfl) (fun _ _ _ h => h) (Or.inl ⟨by rfl, ?_⟩) (by assumption) ?_
    rotate_left
    · (intro w0 hSw; go_simp; with_reducible rfl)
    try simp only [Act.put, List.setIfInBounds_toArray, List.set_cons_zero, List.set_cons_succ]
    refine takeH (i := 5) (oi := _) (v := ?_) rfl (by kernel_rfl) (by kernel_rfl) (by kernel_rfl) (fun _ _ _ h => h) (Or.inl ⟨by rfl, ?_⟩) (by assumption) ?_
    rotate_left
    · (intro w0 hSw; go_simp; with_reducible rfl)
    try simp only [Act.put, List.setIfInBounds_toArray, List.set_cons_zero, List.set_cons_succ]
    refine takeH (i := 6) (oi := _) (v := ?_) rfl (by kernel_rfl) (by kernel_rfl) (by kernel_rfl) (fun _ _ _ h => h) (Or.inl ⟨by rfl, ?_⟩) (by assumption) ?_
    rotate_left
    · (intro w0 hSw; go_simp; with_reducible rfl)
    try simp only [Act.put, List.setIfInBounds_toArray, List.set_cons_zero, List.set_cons_succ]
    refine takeH (i := 7) (oi := _) (v := ?_) rfl (by kernel_rfl) (by kernel_rfl) (by kernel_rfl) (fun _ _ _ h => h) (Or.inl ⟨by rfl, ?_⟩) (by assumption) ?_
    rotate_left
    · (intro w0 hSw; go_simp; with_reducible rfl)
    try simp only [Act.put, List.setIfInBounds_toArray, List.set_cons_zero, List.set_cons_succ]
    refine takeH (i := 8) (oi := _) (v := ?_) rfl (by kernel_rfl) (by kernel_rfl) (by kernel_rfl) (fun _ _ _ h => h) (Or.inl ⟨by rfl, ?_⟩) (by assumption) ?_
    rotate_left
    · (intro w0 hSw; go_simp; with_reducible rfl)
    try simp only [Act.put, List.setIfInBounds_toArray, List.set_cons_zero, List.set_cons_succ]
    refine takeH (i := 9) (oi := _) (v := ?_) rfl (by kernel_rfl) (by kernel_rfl) (by kernel_rfl) (fun _ _ _ h => h) (Or.inl ⟨by rfl, ?_⟩) (by assumption) ?_
    rotate_left
    · (intro w0 hSw; go_simp; with_reducible rfl)
    try simp only [Act.put, List.setIfInBounds_toArray, List.set_cons_zero, List.set_cons_succ]
    refine takeH (i := 10) (oi := _) (v := ?_) rfl (by kernel_rfl) (by kernel_rfl) (by kernel_rfl) (fun _ _ _ h => h) (Or.inl ⟨by rfl, ?_⟩) (by assumption) ?_
    rotate_left
    · (intro w0 hSw; go_simp; with_reducible rfl)
    try simp only [Act.put, List.setIfInBounds_toArray, List.set_cons_zero, List.set_cons_succ]
    refine takeH (i := 11) (oi := _) (v := ?_) rfl (by kernel_rfl) (by kernel_rfl) (by kernel_rfl) (fun _ _ _ h => h) (Or.inl ⟨by rfl, ?_⟩) (by assumption) ?_
    rotate_left
    · (intro w0 hSw; go_simp; with_reducible rfl)
    try simp only [Act.put, List.setIfInBounds_toArray, List.set_cons_zero, List.set_cons_succ]
    refine takeH (i := 12) (oi := _) (v := ?_) rfl (by kernel_rfl) (by kernel_rfl) (by kernel_rfl) (fun _ _ _ h => h) (Or.inl ⟨by rfl, ?_⟩) (by assumption) ?_
    rotate_left
    · (intro w0 hSw; go_simp; with_reducible rfl)
    try simp only [Act.put, List.setIfInBounds_toArray, List.set_cons_zero, List.set_cons_succ]
    refine takeH (i := 13) (oi := _) (v := ?_) rfl (by kernel_rfl) (by kernel_rfl) (by kernel_rfl) (fun _ _ _ h => h) (Or.inl ⟨by rfl, ?_⟩) (by assumption) ?_
    rotate_left
    · (intro w0 hSw; go_simp; with_reducible rfl)
    try simp only [Act.put, List.setIfInBounds_toArray, List.set_cons_zero, List.set_cons_succ]
    refine takeH (i := 14) (oi := _) (v := ?_) rfl (by kernel_rfl) (by kernel_rfl) (by kernel_rfl) (fun _ _ _ h => h) (Or.inl ⟨by rfl, ?_⟩) (by assumption) ?_
    rotate_left
    · (intro w0 hSw; go_simp; with_reducible rfl)
    try simp only [Act.put, List.setIfInBounds_toArray, List.set_cons_zero, List.set_cons_succ]
    refine takeH (i := 17) (oi := _) (v := ?_) rfl (by kernel_rfl) (by kernel_rfl) (by kernel_rfl) (fun _ _ _ h => h) (Or.inl ⟨by rfl, ?_⟩) (by assumption) ?_
    rotate_left
    · (intro w0 hSw; go_simp; with_reducible rfl)
    try simp only [Act.put, List.setIfInBounds_toArray, List.set_cons_zero, List.set_cons_succ]
    refine takeH (i := 18) (oi := _) (v := ?_) rfl (by kernel_rfl) (by kernel_rfl) (by kernel_rfl) (fun _ _ _ h => h) (Or.inl ⟨by rfl, ?_⟩) (by assumption) ?_
    rotate_left
    · (intro w0 hSw; go_simp; with_reducible rfl)
    try simp only [Act.put, List.setIfInBounds_toArray, List.set_cons_zero, List.set_cons_succ]
    refine readyH (i := 15) (o := _) rfl (by kernel_rfl) (fun K hK => ?_)
    go_simp
    refine (take_suf (w := w13.drew) HD13H.out (Nat.zero_le _) (Nat.le_refl 0)).mono ?_
    rintro e w14 ⟨vh, rfl, hx14, hb14, hu14, hn14⟩
    rw [List.drop_zero] at hx14
    have HU14 := Lib.hid (HD13.out.new2 hu14 (by omega) (by omega))
    have HH14 := Lib.hid (show IsBuf w14 ph mh13 (sufRB first S n n) by rw [HSn.out] at hb14; exact hb14)
    have HA14 := Lib.hid (HD13A.out.upd2 hu14 (by omega) (by omega) (by omega) (by omega))
    have HB14 := Lib.hid (HD13B.out.upd2 hu14 (by omega) (by omega) (by omega) (by omega))
    have HX14 := Lib.hid hx14
    have HN14 := Lib.hid hn14
    have hs14 : w13.heap.size ≤ w14.heap.size := hu14.size
    clear hx14 hb14 hu14 hn14
    go_wp2_with fail
    refine hK.out _ _ ?_ (fun hHeld1 => ?_)
    · (exact (HS.out.below HU14.out).str 22 5 9 Try.under22 Try.underE Try.underS)
    clear hK K
    try simp only [Act.put, List.setIfInBounds_toArray, List.set_cons_zero, List.set_cons_succ]
    refine wpAnyH_mono (S' := fun w' => (convert 22 9 (.slice a n cap)).run Try.prog w' = .ok (.string (strOf S)) w' ∧ (convert 22 9 vh).run Try.prog w' = .ok (.string (strOf S)) w') (fun _ h => h.1) ?_
    have hHeld1b : (fun w' => (convert 22 9 (.slice a n cap)).run Try.prog w' = .ok (.string (strOf S)) w' ∧ (convert 22 9 vh).run Try.prog w' = .ok (.string (strOf S)) w') w14 := ⟨hHeld1, HX14.out.str 22 5 9 Try.under22 Try.underE Try.underS⟩
    clear hHeld0 hHeld1
    refine takeH (i := 16) (oi := _) (v := ?_) rfl (by kernel_rfl) (by kernel_rfl) (by kernel_rfl) (fun _ _ _ h => h) (Or.inl ⟨by rfl, ?_⟩) (by assumption) ?_
    rotate_left
    · (intro w0 hSw; obtain ⟨hSw, hSw2⟩ := hSw; go_simp; with_reducible rfl)
    try simp only [Act.put, List.setIfInBounds_toArray, List.set_cons_zero, List.set_cons_succ]
    refine takeH (i := 19) (oi := _) (v := ?_) rfl (by kernel_rfl) (by kernel_rfl) (by kernel_rfl) (fun _ _ _ h => h) (Or.inl ⟨by rfl, ?_⟩) (by assumption) ?_
    rotate_left
    · (intro w0 hSw; obtain ⟨hSw, hSw2⟩ := hSw; go_simp; with_reducible rfl)
    try simp only [Act.put, List.setIfInBounds_toArray, List.set_cons_zero, List.set_cons_succ]
    refine takeH (i := 20) (oi := _) (v := ?_) rfl (by kernel_rfl) (by kernel_rfl) (by kernel_rfl) (fun _ _ _ h => h) (Or.inl ⟨by rfl, ?_⟩) (by assumption) ?_
    rotate_left
    · (intro w0 hSw; obtain ⟨hSw, hSw2⟩ := hSw; go_simp; with_reducible rfl)
    try simp only [Act.put, List.setIfInBounds_toArray, List.set_cons_zero, List.set_cons_succ]
    refine takeH (i := 21) (oi := _) (v := ?_) rfl (by kernel_rfl) (by kernel_rfl) (by kernel_rfl) (fun _ _ _ h => h) (Or.inl ⟨by rfl, ?_⟩) (by assumption) ?_
    rotate_left
    · (intro w0 hSw; obtain ⟨hSw, hSw2⟩ := hSw; go_simp; with_reducible rfl)
    try simp only [Act.put, List.setIfInBounds_toArray, List.set_cons_zero, List.set_cons_succ]
    refine takeH (i := 22) (oi := _) (v := ?_) rfl (by kernel_rfl) (by kernel_rfl) (by kernel_rfl) (fun _ _ _ h => h) (Or.inl ⟨by rfl, ?_⟩) (by assumption) ?_
    rotate_left
    · (intro w0 hSw; obtain ⟨hSw, hSw2⟩ := hSw; go_simp; with_reducible rfl)
    try simp only [Act.put, List.setIfInBounds_toArray, List.set_cons_zero, List.set_cons_succ]
    refine takeH (i := 25) (oi := _) (v := ?_) rfl (by kernel_rfl) (by kernel_rfl) (by kernel_rfl) (fun _ _ _ h => h) (Or.inl ⟨by rfl, ?_⟩) (by assumption) ?_
    rotate_left
    · (intro w0 hSw; obtain ⟨hSw, hSw2⟩ := hSw; go_simp; with_reducible rfl)
    try simp only [Act.put, List.setIfInBounds_toArray, List.set_cons_zero, List.set_cons_succ]
    refine takeH (i := 26) (oi := _) (v := ?_) rfl (by kernel_rfl) (by kernel_rfl) (by kernel_rfl) (fun _ _ _ h => h) (Or.inl ⟨by rfl, ?_⟩) (by assumption) ?_
    rotate_left
    · (intro w0 hSw; obtain ⟨hSw, hSw2⟩ := hSw; go_simp; with_reducible rfl)
    try simp only [Act.put, List.setIfInBounds_toArray, List.set_cons_zero, List.set_cons_succ]
    refine readyH (i := 23) (o := _) rfl (by kernel_rfl) (fun K hK => ?_)
    go_simp
    refine (take_suf (w := w14) HA14.out (Nat.zero_le _) (Nat.le_refl 0)).mono ?_
    rintro e w15 ⟨va, rfl, hx15, hb15, hu15, hn15⟩
    rw [List.drop_zero] at hx15
    have HU15 := Lib.hid (HU14.out.new2 hu15 (by omega) (by omega))
    have HA15 := Lib.hid (show IsBuf w15 pa ma7 (sufRB first S n n) by rw [HSn.out] at hb15; exact hb15)
    have HH15 := Lib.hid (HH14.out.upd2 hu15 (by omega) (by omega) (by omega) (by omega))
    have HB15 := Lib.hid (HB14.out.upd2 hu15 (by omega) (by omega) (by omega) (by omega))
    have HX15 := Lib.hid (HX14.out.upd' hu15 HN14.out fun b hb1 hb2 => by have hb3 : w13.heap.size ≤ b := hb1; simp; omega)
    have HY15 := Lib.hid hx15
    clear hx15 hb15 hu15 hn15
    go_wp2_with fail
    refine hK.out _ _ ?_ (fun hHeld2 => ?_)
    · (exact ⟨(HS.out.below HU15.out).str 22 5 9 Try.under22 Try.underE Try.underS, HX15.out.str 22 5 9 Try.under22 Try.underE Try.underS⟩)
    clear hK K
    try simp only [Act.put, List.setIfInBounds_toArray, List.set_cons_zero, List.set_cons_succ]
    refine wpAnyH_mono (S' := fun w' => ((convert 22 9 (.slice a n cap)).run Try.prog w' = .ok (.string (strOf S)) w' ∧ (convert 22 9 vh).run Try.prog w' = .ok (.string (strOf S)) w') ∧ (convert 22 9 va).run Try.prog w' = .ok (.string (strOf S)) w') (fun _ h => h.1) ?_
    have hHeld2b : (fun w' => ((convert 22 9 (.slice a n cap)).run Try.prog w' = .ok (.string (strOf S)) w' ∧ (convert 22 9 vh).run Try.prog w' = .ok (.string (strOf S)) w') ∧ (convert 22 9 va).run Try.prog w' = .ok (.string (strOf S)) w') w15 := ⟨hHeld2, HY15.out.str 22 5 9 Try.under22 Try.underE Try.underS⟩
    clear hHeld1b hHeld2
    refine takeH (i := 24) (oi := _) (v := ?_) rfl (by kernel_rfl) (by kernel_rfl) (by kernel_rfl) (fun _ _ _ h => h) (Or.inl ⟨by rfl, ?_⟩) (by assumption) ?_
    rotate_left
    · (intro w0 hSw; obtain ⟨⟨hSw, hSw2⟩, hSw3⟩ := hSw; go_simp; with_reducible rfl)
    try simp only [Act.put, List.setIfInBounds_toArray, List.set_cons_zero, List.set_cons_succ]
    refine takeH (i := 27) (oi := _) (v := ?_) rfl (by kernel_rfl) (by kernel_rfl) (by kernel_rfl) (fun _ _ _ h => h) (Or.inl ⟨by rfl, ?_⟩) (by assumption) ?_
    rotate_left
    · (intro w0 hSw; obtain ⟨⟨hSw, hSw2⟩, hSw3⟩ := hSw; go_simp; with_reducible rfl)
    try simp only [Act.put, List.setIfInBounds_toArray, List.set_cons_zero, List.set_cons_succ]
    refine takeH (i := 28) (oi := _) (v := ?_) rfl (by kernel_rfl) (by kernel_rfl) (by kernel_rfl) (fun _ _ _ h => h) (Or.inl ⟨by rfl, ?_⟩) (by assumption) ?_
    rotate_left
    · (intro w0 hSw; obtain ⟨⟨hSw, hSw2⟩, hSw3⟩ := hSw; go_simp; with_reducible rfl)
    try simp only [Act.put, List.setIfInBounds_toArray, List.set_cons_zero, List.set_cons_succ]
    refine takeH (i := 29) (oi := _) (v := ?_) rfl (by kernel_rfl) (by kernel_rfl) (by kernel_rfl) (fun _ _ _ h => h) (Or.inl ⟨by rfl, ?_⟩) (by assumption) ?_
    rotate_left
    · (intro w0 hSw; obtain ⟨⟨hSw, hSw2⟩, hSw3⟩ := hSw; go_simp; with_reducible rfl)
    try simp only [Act.put, List.setIfInBounds_toArray, List.set_cons_zero, List.set_cons_succ]
    refine takeH (i := 30) (oi := _) (v := ?_) rfl (by kernel_rfl) (by kernel_rfl) (by kernel_rfl) (fun _ _ _ h => h) (Or.inl ⟨by rfl, ?_⟩) (by assumption) ?_
    rotate_left
    · (intro w0 hSw; obtain ⟨⟨hSw, hSw2⟩, hSw3⟩ := hSw; go_simp; with_reducible rfl)
    try simp only [Act.put, List.setIfInBounds_toArray, List.set_cons_zero, List.set_cons_succ]
    refine takeH (i := 32) (oi := _) (v := ?_) rfl (by kernel_rfl) (by kernel_rfl) (by kernel_rfl) (fun _ _ _ h => h) (Or.inl ⟨by rfl, ?_⟩) (by assumption) ?_
    rotate_left
    · (intro w0 hSw; obtain ⟨⟨hSw, hSw2⟩, hSw3⟩ := hSw; go_simp; with_reducible rfl)
    try simp only [Act.put, List.setIfInBounds_toArray, List.set_cons_zero, List.set_cons_succ]
    refine readyH (i := 31) (o := _) rfl (by kernel_rfl) (fun K hK => ?_)
    go_simp
    refine (next_any (B := sufRB first S n n) HA15.out).mono ?_
    rintro e w' ⟨rfl, rfl⟩
    go_wp2_with fail
    refine hK.out _ _ ?_ (fun hHeld3 => ?_)
    · (exact ⟨⟨(HS.out.below HU15.out).str 22 5 9 Try.under22 Try.underE Try.underS, HX15.out.str 22 5 9 Try.under22 Try.underE Try.underS⟩, HY15.out.str 22 5 9 Try.under22 Try.underE Try.underS⟩)
    clear hK K
    try simp only [Act.put, List.setIfInBounds_toArray, List.set_cons_zero, List.set_cons_succ]
    refine readyH (i := 33) (o := _) rfl (by kernel_rfl) (fun K hK => ?_)
    go_simp
    refine (next_any (B := sufRB first S n n) HB15.out).mono ?_
    rintro e w' ⟨rfl, rfl⟩
    go_wp2_with fail
    refine hK.out _ _ ?_ (fun hHeld4 => ?_)
    · (exact ⟨⟨(HS.out.below HU15.out).str 22 5 9 Try.under22 Try.underE Try.underS, HX15.out.str 22 5 9 Try.under22 Try.underE Try.underS⟩, HY15.out.str 22 5 9 Try.under22 Try.underE Try.underS⟩)
    clear hK K
    try simp only [Act.put, List.setIfInBounds_toArray, List.set_cons_zero, List.set_cons_succ]
    refine takeH (i := 34) (oi := _) (v := ?_) rfl (by kernel_rfl) (by kernel_rfl) (by kernel_rfl) (fun _ _ _ h => h) (Or.inl ⟨by rfl, ?_⟩) (by assumption) ?_
    rotate_left
    · (intro w0 hSw; obtain ⟨⟨hSw, hSw2⟩, hSw3⟩ := hSw; go_simp; with_reducible rfl)
    try simp only [Act.put, List.setIfInBounds_toArray, List.set_cons_zero, List.set_cons_succ]
    refine takeH (i := 35) (oi := _) (v := ?_) rfl (by kernel_rfl) (by kernel_rfl) (by kernel_rfl) (fun _ _ _ h => h) (Or.inl ⟨by rfl, ?_⟩) (by assumption) ?_
    rotate_left
    · (intro w0 hSw; obtain ⟨⟨hSw, hSw2⟩, hSw3⟩ := hSw; go_simp; with_reducible rfl)
    try simp only [Act.put, List.setIfInBounds_toArray, List.set_cons_zero, List.set_cons_succ]
    refine takeH (i := 36) (oi := _) (v := ?_) rfl (by kernel_rfl) (by kernel_rfl) (by kernel_rfl) (fun _ _ _ h => h) (Or.inl ⟨by rfl, ?_⟩) (by assumption) ?_
    rotate_left
    · (intro w0 hSw; obtain ⟨⟨hSw, hSw2⟩, hSw3⟩ := hSw; go_simp; with_reducible rfl)
    try simp only [Act.put, List.setIfInBounds_toArray, List.set_cons_zero, List.set_cons_succ]
    refine takeH (i := 37) (oi := _) (v := ?_) rfl (by kernel_rfl) (by kernel_rfl) (by kernel_rfl) (fun _ _ _ h => h) (Or.inl ⟨by rfl, ?_⟩) (by assumption) ?_
    rotate_left
    · (intro w0 hSw; obtain ⟨⟨hSw, hSw2⟩, hSw3⟩ := hSw; go_simp; with_reducible rfl)
    try simp only [Act.put, List.setIfInBounds_toArray, List.set_cons_zero, List.set_cons_succ]
    refine takeH (i := 39) (oi := _) (v := ?_) rfl (by kernel_rfl) (by kernel_rfl) (by kernel_rfl) (fun _ _ _ h => h) (Or.inl ⟨by rfl, ?_⟩) (by assumption) ?_
    rotate_left
    · (intro w0 hSw; obtain ⟨⟨hSw, hSw2⟩, hSw3⟩ := hSw; go_simp; with_reducible rfl)
    try simp only [Act.put, List.setIfInBounds_toArray, List.set_cons_zero, List.set_cons_succ]
    refine readyH (i := 38) (o := _) rfl (by kernel_rfl) (fun K hK => ?_)
    go_simp
    refine (room_any (B := sufRB first S n n) HA15.out).mono ?_
    rintro e w' ⟨rfl, qa, rfl⟩
    go_wp2_with fail
    refine hK.out _ _ ?_ (fun hHeld5 => ?_)
    · (exact ⟨⟨(HS.out.below (HU15.out.drewN _)).str 22 5 9 Try.under22 Try.underE Try.underS, (HX15.out.drewN _).str 22 5 9 Try.under22 Try.underE Try.underS⟩, (HY15.out.drewN _).str 22 5 9 Try.under22 Try.underE Try.underS⟩)
    clear hK K
    try simp only [Act.put, List.setIfInBounds_toArray, List.set_cons_zero, List.set_cons_succ]
    refine readyH (i := 40) (o := _) rfl (by kernel_rfl) (fun K hK => ?_)
    go_simp
    refine (room_any (B := sufRB first S n n) (HB15.out.drewN _)).mono ?_
    rintro e w' ⟨rfl, qb, rfl⟩
    go_wp2_with fail
    refine hK.out _ _ ?_ (fun hHeld6 => ?_)
    · (exact ⟨⟨(HS.out.below (HU15.out.drewN _)).str 22 5 9 Try.under22 Try.underE Try.underS, (HX15.out.drewN _).str 22 5 9 Try.under22 Try.underE Try.underS⟩, (HY15.out.drewN _).str 22 5 9 Try.under22 Try.underE Try.underS⟩)
    clear hK K
    try simp only [Act.put, List.setIfInBounds_toArray, List.set_cons_zero, List.set_cons_succ]
    refine takeH (i := 41) (oi := _) (v := ?_) rfl (by kernel_rfl) (by kernel_rfl) (by kernel_rfl) (fun _ _ _ h => h) (Or.inl ⟨by rfl, ?_⟩) (by assumption) ?_
    rotate_left
    · (intro w0 hSw; obtain ⟨⟨hSw, hSw2⟩, hSw3⟩ := hSw; go_simp; with_reducible rfl)
    try simp only [Act.put, List.setIfInBounds_toArray, List.set_cons_zero, List.set_cons_succ]
    refine takeH (i := 42) (oi := _) (v := ?_) rfl (by kernel_rfl) (by kernel_rfl) (by kernel_rfl) (fun _ _ _ h => h) (Or.inl ⟨by rfl, ?_⟩) (by assumption) ?_
    rotate_left
    · (intro w0 hSw; obtain ⟨⟨hSw, hSw2⟩, hSw3⟩ := hSw; go_simp; with_reducible rfl)
    try simp only [Act.put, List.setIfInBounds_toArray, List.set_cons_zero, List.set_cons_succ]
    refine takeH (i := 43) (oi := _) (v := ?_) rfl (by kernel_rfl) (by kernel_rfl) (by kernel_rfl) (fun _ _ _ h => h) (Or.inl ⟨by rfl, ?_⟩) (by assumption) ?_
    rotate_left
    · (intro w0 hSw; obtain ⟨⟨hSw, hSw2⟩, hSw3⟩ := hSw; go_simp; with_reducible rfl)
    try simp only [Act.put, List.setIfInBounds_toArray, List.set_cons_zero, List.set_cons_succ]
    refine takeH (i := 44) (oi := _) (v := ?_) rfl (by kernel_rfl) (by kernel_rfl) (by kernel_rfl) (fun _ _ _ h => h) (Or.inl ⟨by rfl, ?_⟩) (by assumption) ?_
    rotate_left
    · (intro w0 hSw; obtain ⟨⟨hSw, hSw2⟩, hSw3⟩ := hSw; go_simp; with_reducible rfl)
    try simp only [Act.put, List.setIfInBounds_toArray, List.set_cons_zero, List.set_cons_succ]
    refine takeH (i := 46) (oi := _) (v := ?_) rfl (by kernel_rfl) (by kernel_rfl) (by kernel_rfl) (fun _ _ _ h => h) (Or.inl ⟨by rfl, ?_⟩) (by assumption) ?_
    rotate_left
    · (intro w0 hSw; obtain ⟨⟨hSw, hSw2⟩, hSw3⟩ := hSw; go_simp; with_reducible rfl)
    try simp only [Act.put, List.setIfInBounds_toArray, List.set_cons_zero, List.set_cons_succ]
    refine readyH (i := 45) (o := _) rfl (by kernel_rfl) (fun K hK => ?_)
    go_simp
    refine (next_any (B := sufRB first S n n) (HA15.out.drewN _)).mono ?_
    rintro e w' ⟨rfl, rfl⟩
    go_wp2_with fail
    refine hK.out _ _ ?_ (fun hHeld7 => ?_)
    · (exact ⟨⟨(HS.out.below (HU15.out.drewN _)).str 22 5 9 Try.under22 Try.underE Try.underS, (HX15.out.drewN _).str 22 5 9 Try.under22 Try.underE Try.underS⟩, (HY15.out.drewN _).str 22 5 9 Try.under22 Try.underE Try.underS⟩)
    clear hK K
    try simp only [Act.put, List.setIfInBounds_toArray, List.set_cons_zero, List.set_cons_succ]
    refine readyH (i := 47) (o := _) rfl (by kernel_rfl) (fun K hK => ?_)
    go_simp
    refine (next_any (B := sufRB first S n n) (HH15.out.drewN _)).mono ?_
    rintro e w' ⟨rfl, rfl⟩
    go_wp2_with fail
    refine hK.out _ _ ?_ (fun hHeld8 => ?_)
    · (exact ⟨⟨(HS.out.below (HU15.out.drewN _)).str 22 5 9 Try.under22 Try.underE Try.underS, (HX15.out.drewN _).str 22 5 9 Try.under22 Try.underE Try.underS⟩, (HY15.out.drewN _).str 22 5 9 Try.under22 Try.underE Try.underS⟩)
    clear hK K
    try simp only [Act.put, List.setIfInBounds_toArray, List.set_cons_zero, List.set_cons_succ]
    refine takeH (i := 48) (oi := _) (v := ?_) rfl (by kernel_rfl) (by kernel_rfl) (by kernel_rfl) (fun _ _ _ h => h) (Or.inl ⟨by rfl, ?_⟩) (by assumption) ?_
    rotate_left
    · (intro w0 hSw; obtain ⟨⟨hSw, hSw2⟩, hSw3⟩ := hSw; go_simp; with_reducible rfl)
    try simp only [Act.put, List.setIfInBounds_toArray, List.set_cons_zero, List.set_cons_succ]
    refine takeH (i := 49) (oi := _) (v := ?_) rfl (by kernel_rfl) (by kernel_rfl) (by kernel_rfl) (fun _ _ _ h => h) (Or.inl ⟨by rfl, ?_⟩) (by assumption) ?_
    rotate_left
    · (intro w0 hSw; obtain ⟨⟨hSw, hSw2⟩, hSw3⟩ := hSw; go_simp; with_reducible rfl)
    try simp only [Act.put, List.setIfInBounds_toArray, List.set_cons_zero, List.set_cons_succ]
    refine takeH (i := 50) (oi := _) (v := ?_) rfl (by kernel_rfl) (by kernel_rfl) (by kernel_rfl) (fun _ _ _ h => h) (Or.inl ⟨by rfl, ?_⟩) (by assumption) ?_
    rotate_left
    · (intro w0 hSw; obtain ⟨⟨hSw, hSw2⟩, hSw3⟩ := hSw; go_simp; with_reducible rfl)
    try simp only [Act.put, List.setIfInBounds_toArray, List.set_cons_zero, List.set_cons_succ]
    refine readyH (i := 51) (o := _) rfl (by kernel_rfl) (fun K hK => ?_)
    go_simp
    refine (wakes18_any _).mono ?_
    rintro e w17 ⟨rfl, hu17⟩
    have HU17 := Lib.hid ((HU15.out.drewN (qa + qb)).trans' hu17)
    have HX17 := Lib.hid (HX15.out.below (((Upd.refl [] w15).drewN (qa + qb)).trans' hu17))
    have HY17 := Lib.hid (HY15.out.below (((Upd.refl [] w15).drewN (qa + qb)).trans' hu17))
    clear hu17
    go_wp2_with fail
    refine hK.out _ _ ?_ (fun hHeld9 => ?_)
    · (exact ⟨⟨(HS.out.below HU17.out).str 22 5 9 Try.under22 Try.underE Try.underS, HX17.out.str 22 5 9 Try.under22 Try.underE Try.underS⟩, HY17.out.str 22 5 9 Try.under22 Try.underE Try.underS⟩)
    clear hK K
    try simp only [Act.put, List.setIfInBounds_toArray, List.set_cons_zero, List.set_cons_succ]
    refine takeH (i := 52) (oi := _) (v := ?_) rfl (by kernel_rfl) (by kernel_rfl) (by kernel_rfl) (fun _ _ _ h => h) (Or.inl ⟨by rfl, ?_⟩) (by assumption) ?_
    rotate_left
    · (intro w0 hSw; obtain ⟨⟨hSw, hSw2⟩, hSw3⟩ := hSw; go_simp; with_reducible rfl)
    try simp only [Act.put, List.setIfInBounds_toArray, List.set_cons_zero, List.set_cons_succ]
    refine takeH (i := 53) (oi := _) (v := ?_) rfl (by kernel_rfl) (by kernel_rfl) (by kernel_rfl) (fun _ _ _ h => h) (Or.inl ⟨by rfl, ?_⟩) (by assumption) ?_
    rotate_left
    · (intro w0 hSw; obtain ⟨⟨hSw, hSw2⟩, hSw3⟩ := hSw; go_simp; with_reducible rfl)
    try simp only [Act.put, List.setIfInBounds_toArray, List.set_cons_zero, List.set_cons_succ]
    refine wpAnyH_done (by kernel_rfl) ?_ _
    all_goals (go_wp2_with fail; go_ret; exact ⟨rfl, HU1.out.trans' HU17.out⟩)
end Go.Proofs.Ytcjeipeeacnmmaa
