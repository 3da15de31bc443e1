/-
  Contracts of package reasm: pieces, whatever the closure.
-/
import Derived.Test.YtcjeipeeacnmmaaRs4
namespace Go.Proofs.Ytcjeipeeacnmmaa
open Go.RowKit Go.Deep Go.Maps

theorem own_cells {w : World} {base e : Nat} {v : Value} {n : Nat} {xs : List Value} (h : w.ownsRow base e 1 v n xs) :
    (v = .slice none 0 0 ∧ n = 0) ∨ ∃ g cap, v = .slice (some ⟨g, 0, none⟩) n cap ∧ base ≤ g ∧ n ≤ cap ∧ g < w.heap.size ∧ ∀ (i : Nat) (u : Value), xs[i]? = some u → w.cell? ⟨g, i, none⟩ = some u := by
  obtain ⟨hl, h⟩ := h
  rcases h with h | ⟨g, cap, cur, rfl, hb, hg, hc, _, _, ht⟩
  · exact .inl h
  · refine .inr ⟨g, cap, rfl, hb, hc, (Array.getElem?_eq_some_iff.1 hg).1, fun i u hi => ?_⟩
    have hi' : i < xs.length := (List.getElem?_eq_some_iff.1 hi).1
    rw [← ht, List.getElem?_take, if_pos (by omega)] at hi
    rw [cell_of_blk hg, ← Array.getElem?_toList, hi]

/-- What a closure must do with each piece. -/
structure Does (g : Nat) (x y : Nat) (S : List Nat) (w0 : World) (ks : List Nat) (I : List (Nat × Nat) → World → Prop) : Prop where
  low : ∀ b ∈ S, b < w0.heap.size
  keep : ∀ d W W', I d W → Upd [] W W' → I d W'
  call : ∀ (d : List (Nat × Nat)) (a b : Nat) (W : World), I d W → (d ++ [(a, b)]) <+: runsOf ks → d.length ≤ 16384 → a < 16384 → b ≤ 16384 → Calls Try.prog g #[.int .i64 (a : Int), .int .i64 (b : Int), .pointer (some ⟨x, 0, none⟩), .pointer (some ⟨y, 0, none⟩)] W fun e W' => e = .returned (.tuple #[]) ∧ I (d ++ [(a, b)]) W' ∧ Upd S W W'

/-- what pieces leaves -/
def Pieced (ks : List Nat) (S : List Nat) (I : List (Nat × Nat) → World → Prop) (w : World) (e : Ending) (w' : World) : Prop := e = .returned (.tuple #[]) ∧ I (runsOf ks) w' ∧ Upd S w w'
/-- the loop's relation -/
def Piecing (ks : List Nat) (S : List Nat) (I : List (Nat × Nat) → World → Prop) (w : World) (g i : Nat) (fr la : Value) (wr : World) : Prop :=
  fr = .int .i64 (curA (runsAt ks i).2) ∧ la = .int .i64 (curL (runsAt ks i).2) ∧ I (runsAt ks i).1 wr ∧ Upd S w wr ∧ g < wr.heap.size ∧ ∀ (j k : Nat), ks[j]? = some k → wr.cell? ⟨g, j, none⟩ = some (.int .i64 (k : Int))

-- THE WALK, once a closure

set_option maxRecDepth 100000 in
set_option maxHeartbeats 3200000 in
theorem pieces_Put1 {w : World} {m N : Nat} {f : Nat → Option UInt8} {x y : Nat} {S : List Nat} {I : List (Nat × Nat) → World → Prop} (h : MapAt Try.prog 3 5 w m N f) (hN : N ≤ 16384)
    (hD : Does 25 x y S w (keysF N f) I) (h0 : I [] w) :
    Calls Try.prog 24 #[.map (some m), .func (.func 25) #[] #[.pointer (some ⟨x, 0, none⟩), .pointer (some ⟨y, 0, none⟩)]] w (Pieced (keysF N f) S I w) := by
  have H := Lib.hid h
  have HD := Lib.hid hD
  have H0 := Lib.hid h0
  clear h hD h0
  go_enter Try.func24, Try.ntmps24
  go_wp2_with fail
  refine (keys_call m w).mono ?_
  rintro e w1 ⟨rfl, rfl⟩
  go_wp2_with fail
  refine (sorted_call H.out hN).mono ?_
  rintro e w1 ⟨v, rfl, ho, hu⟩
  have HU := Lib.hid hu
  have hsz := hu.size
  have hlen := keysF_le N f
  rcases own_cells ho with ⟨rfl, hn⟩ | ⟨g, cap, rfl, hb, hcap, hg, hcells⟩
  · have hk : keysF N f = [] := List.eq_nil_of_length_eq_zero hn
    have HK := Lib.hid hk
    clear hk hn ho hu hlen
    go_wp2_with fail
    refine wp_loop_rounds 1 ?_
    rw [rounds_succ]
    go_wp2_with fail
    go_end0
    refine ⟨rfl, ?_, HU.out.nil _⟩
    rw [HK.out]
    exact HD.out.keep _ _ _ H0.out HU.out
  · obtain ⟨ks, hks⟩ : ∃ ks, keysF N f = ks := ⟨_, rfl⟩
    have HKS := Lib.hid hks
    rw [hks] at hlen hcap hcells
    rw [hks]
    obtain ⟨n, hn⟩ : ∃ n, ks.length = n := ⟨_, rfl⟩
    rw [hn] at hlen hcap ⊢
    have HN := Lib.hid hn
    have HC := Lib.hid hcells
    have hbd : ∀ (i k : Nat), ks[i]? = some k → k < N := fun i k hi => by
      have : k ∈ keysF N f := hks ▸ List.mem_of_getElem? hi
      exact (mem_keysF.1 this).1
    have HB := Lib.hid hbd
    clear hks hn ho hu hcells hbd
    go_wp2_with fail
    go_loopw [4, 5, 12] (fun fr la u wr => ∃ i : Nat, u = .int .i64 (i : Int) ∧ i ≤ n ∧ Piecing ks S I w g i fr la wr) (fun _ _ u _ => n - (intOf u).toNat)
    case atStart =>
      refine ⟨0, rfl, Nat.zero_le _, rfl, rfl, HD.out.keep _ _ _ H0.out HU.out, HU.out.nil _, hg, fun j k hj => ?_⟩
      exact HC.out j _ (by rw [List.getElem?_map, hj]; rfl)
    case round =>
      obtain ⟨i, rfl, hi, hP⟩ := hrel
      have HP := Lib.hid hP
      obtain ⟨rfl, rfl, _, _, hgr, _⟩ := hP
      by_cases hlt : i < n
      · obtain ⟨k, hk⟩ : ∃ k, ks[i]? = some k := ⟨_, List.getElem?_eq_getElem (by have := HN.out; omega)⟩
        have hkN := HB.out i k hk
        have hcell := HP.out.2.2.2.2.2 i k hk
        have hstep := runsAt_succ hk
        have HS := Lib.hid hstep
        have HK := Lib.hid hk
        clear hk hstep
        obtain ⟨d, hd⟩ : ∃ d, (runsAt ks i).2 = d := ⟨_, rfl⟩
        rw [hd]
        have HDd := Lib.hid hd
        clear hd
        cases d with
        | none =>
          dsimp only [curA, curL]
          go_wp2_with fail
          go_roundw
          case rel =>
            refine ⟨i + 1, by go_num, by omega, ?_⟩
            obtain ⟨_, _, hI, hu, hg, hc⟩ := HP.out
            have e : runsAt ks (i + 1) = ((runsAt ks i).1, some (k, k)) := by rw [HS.out]; unfold runStep; rw [HDd.out]
            exact ⟨by rw [e]; rfl, by rw [e]; rfl, by rw [e]; exact hI, hu, hg, hc⟩
          case measure => simp [intOf]; omega
        | some al =>
          obtain ⟨a, l⟩ := al
          have hal := runsAt_bd HB.out i a l HDd.out
          have hal1 := hal.1
          have hal2 := hal.2
          clear hal
          dsimp only [curA, curL]
          by_cases hkl : (k : Int) = (l : Int) + 1
          · have hb1 : ((k : Int) != (l : Int) + 1) = false := by simp [hkl]
            have HKL := Lib.hid hkl
            clear hkl
            go_wp2_with fail
            go_roundw
            case rel =>
              refine ⟨i + 1, by go_num, by omega, ?_⟩
              obtain ⟨_, _, hI, hu, hg, hc⟩ := HP.out
              have e : runsAt ks (i + 1) = ((runsAt ks i).1, some (a, k)) := by rw [HS.out]; unfold runStep; rw [HDd.out]; exact if_pos (by have := HKL.out; omega)
              exact ⟨by rw [e]; rfl, by rw [e]; rfl, by rw [e]; exact hI, hu, hg, hc⟩
            case measure => simp [intOf]; omega
          · have hb1 : ((k : Int) != (l : Int) + 1) = true := by simp [hkl]
            have HKL := Lib.hid hkl
            clear hkl
            go_wp2_with fail
            refine (HD.out.call _ a (l + 1) wr HP.out.2.2.1 (by rw [HKS.out]; have e : (runsAt ks (i + 1)).1 = (runsAt ks i).1 ++ [(a, l + 1)] := by { rw [HS.out]; unfold runStep; rw [HDd.out]; simp only; rw [if_neg (by have := HKL.out; omega)] }; rw [← e]; exact runsAt_runs ks (by have := HN.out; omega)) (by have := runsAt_len ks i; omega) (by omega) (by omega)).mono ?_
            rintro e w2 ⟨rfl, hI2, hu2⟩
            have HI2 := Lib.hid hI2
            have HU2 := Lib.hid hu2
            clear hI2 hu2
            go_wp2_with fail
            go_roundw
            case rel =>
              refine ⟨i + 1, by go_num, by omega, ?_⟩
              obtain ⟨_, _, hI, hu, hg, hc⟩ := HP.out
              have e : runsAt ks (i + 1) = ((runsAt ks i).1 ++ [(a, l + 1)], some (k, k)) := by rw [HS.out]; unfold runStep; rw [HDd.out]; exact if_neg (by have := HKL.out; omega)
              have hgS : g ∉ S := fun hm => by have := HD.out.low g hm; omega
              refine ⟨by rw [e]; rfl, by rw [e]; rfl, by rw [e]; exact HI2.out, hu.trans' HU2.out, Nat.lt_of_lt_of_le hg HU2.out.size, fun j k' hj => ?_⟩
              exact (HU2.out.cell (p := ⟨g, j, none⟩) hg hgS).trans (hc j k' hj)
            case measure => simp [intOf]; omega
      · have hin : i = n := by omega
        subst hin
        have HR : Hid (runsOf ks = match (runsAt ks i).2 with | Option.none => (runsAt ks i).1 | some (a, l) => (runsAt ks i).1 ++ [(a, l + 1)]) := by
          unfold Hid runsOf
          rw [HN.out]
          cases h2 : (runsAt ks i).2 with
          | none => rw [show runsAt ks i = ((runsAt ks i).1, Option.none) from by rw [← h2]]
          | some al => rw [show runsAt ks i = ((runsAt ks i).1, some al) from by rw [← h2]]
        obtain ⟨d, hd⟩ : ∃ d, (runsAt ks i).2 = d := ⟨_, rfl⟩
        rw [hd]
        have HDd := Lib.hid hd
        clear hd
        cases d with
        | none =>
          dsimp only [curA, curL]
          go_wp2_with fail
          go_end0
          obtain ⟨_, _, hI, hu, _, _⟩ := HP.out
          exact ⟨rfl, by rw [HKS.out, HR.out, HDd.out]; exact hI, hu⟩
        | some al =>
          obtain ⟨a, l⟩ := al
          have hal := runsAt_bd HB.out i a l HDd.out
          have hal1 := hal.1
          have hal2 := hal.2
          clear hal
          dsimp only [curA, curL]
          go_wp2_with fail
          refine (HD.out.call _ a (l + 1) wr HP.out.2.2.1 (by rw [HKS.out, HR.out, HDd.out]; exact List.prefix_refl _) (by have := runsAt_len ks i; omega) (by omega) (by omega)).mono ?_
          rintro e w2 ⟨rfl, hI2, hu2⟩
          have HI2 := Lib.hid hI2
          have HU2 := Lib.hid hu2
          clear hI2 hu2
          go_wp2_with fail
          go_end0
          obtain ⟨_, _, hI, hu, _, _⟩ := HP.out
          exact ⟨rfl, by rw [HKS.out, HR.out, HDd.out]; exact HI2.out, hu.trans' HU2.out⟩

set_option maxRecDepth 100000 in
set_option maxHeartbeats 3200000 in
theorem pieces_Held1 {w : World} {m N : Nat} {f : Nat → Option UInt8} {x y : Nat} {S : List Nat} {I : List (Nat × Nat) → World → Prop} (h : MapAt Try.prog 3 5 w m N f) (hN : N ≤ 16384)
    (hD : Does 44 x y S w (keysF N f) I) (h0 : I [] w) :
    Calls Try.prog 24 #[.map (some m), .func (.func 44) #[] #[.pointer (some ⟨x, 0, none⟩), .pointer (some ⟨y, 0, none⟩)]] w (Pieced (keysF N f) S I w) := by
  have H := Lib.hid h
  have HD := Lib.hid hD
  have H0 := Lib.hid h0
  clear h hD h0
  go_enter Try.func24, Try.ntmps24
  go_wp2_with fail
  refine (keys_call m w).mono ?_
  rintro e w1 ⟨rfl, rfl⟩
  go_wp2_with fail
  refine (sorted_call H.out hN).mono ?_
  rintro e w1 ⟨v, rfl, ho, hu⟩
  have HU := Lib.hid hu
  have hsz := hu.size
  have hlen := keysF_le N f
  rcases own_cells ho with ⟨rfl, hn⟩ | ⟨g, cap, rfl, hb, hcap, hg, hcells⟩
  · have hk : keysF N f = [] := List.eq_nil_of_length_eq_zero hn
    have HK := Lib.hid hk
    clear hk hn ho hu hlen
    go_wp2_with fail
    refine wp_loop_rounds 1 ?_
    rw [rounds_succ]
    go_wp2_with fail
    go_end0
    refine ⟨rfl, ?_, HU.out.nil _⟩
    rw [HK.out]
    exact HD.out.keep _ _ _ H0.out HU.out
  · obtain ⟨ks, hks⟩ : ∃ ks, keysF N f = ks := ⟨_, rfl⟩
    have HKS := Lib.hid hks
    rw [hks] at hlen hcap hcells
    rw [hks]
    obtain ⟨n, hn⟩ : ∃ n, ks.length = n := ⟨_, rfl⟩
    rw [hn] at hlen hcap ⊢
    have HN := Lib.hid hn
    have HC := Lib.hid hcells
    have hbd : ∀ (i k : Nat), ks[i]? = some k → k < N := fun i k hi => by
      have : k ∈ keysF N f := hks ▸ List.mem_of_getElem? hi
      exact (mem_keysF.1 this).1
    have HB := Lib.hid hbd
    clear hks hn ho hu hcells hbd
    go_wp2_with fail
    go_loopw [4, 5, 12] (fun fr la u wr => ∃ i : Nat, u = .int .i64 (i : Int) ∧ i ≤ n ∧ Piecing ks S I w g i fr la wr) (fun _ _ u _ => n - (intOf u).toNat)
    case atStart =>
      refine ⟨0, rfl, Nat.zero_le _, rfl, rfl, HD.out.keep _ _ _ H0.out HU.out, HU.out.nil _, hg, fun j k hj => ?_⟩
      exact HC.out j _ (by rw [List.getElem?_map, hj]; rfl)
    case round =>
      obtain ⟨i, rfl, hi, hP⟩ := hrel
      have HP := Lib.hid hP
      obtain ⟨rfl, rfl, _, _, hgr, _⟩ := hP
      by_cases hlt : i < n
      · obtain ⟨k, hk⟩ : ∃ k, ks[i]? = some k := ⟨_, List.getElem?_eq_getElem (by have := HN.out; omega)⟩
        have hkN := HB.out i k hk
        have hcell := HP.out.2.2.2.2.2 i k hk
        have hstep := runsAt_succ hk
        have HS := Lib.hid hstep
        have HK := Lib.hid hk
        clear hk hstep
        obtain ⟨d, hd⟩ : ∃ d, (runsAt ks i).2 = d := ⟨_, rfl⟩
        rw [hd]
        have HDd := Lib.hid hd
        clear hd
        cases d with
        | none =>
          dsimp only [curA, curL]
          go_wp2_with fail
          go_roundw
          case rel =>
            refine ⟨i + 1, by go_num, by omega, ?_⟩
            obtain ⟨_, _, hI, hu, hg, hc⟩ := HP.out
            have e : runsAt ks (i + 1) = ((runsAt ks i).1, some (k, k)) := by rw [HS.out]; unfold runStep; rw [HDd.out]
            exact ⟨by rw [e]; rfl, by rw [e]; rfl, by rw [e]; exact hI, hu, hg, hc⟩
          case measure => simp [intOf]; omega
        | some al =>
          obtain ⟨a, l⟩ := al
          have hal := runsAt_bd HB.out i a l HDd.out
          have hal1 := hal.1
          have hal2 := hal.2
          clear hal
          dsimp only [curA, curL]
          by_cases hkl : (k : Int) = (l : Int) + 1
          · have hb1 : ((k : Int) != (l : Int) + 1) = false := by simp [hkl]
            have HKL := Lib.hid hkl
            clear hkl
            go_wp2_with fail
            go_roundw
            case rel =>
              refine ⟨i + 1, by go_num, by omega, ?_⟩
              obtain ⟨_, _, hI, hu, hg, hc⟩ := HP.out
              have e : runsAt ks (i + 1) = ((runsAt ks i).1, some (a, k)) := by rw [HS.out]; unfold runStep; rw [HDd.out]; exact if_pos (by have := HKL.out; omega)
              exact ⟨by rw [e]; rfl, by rw [e]; rfl, by rw [e]; exact hI, hu, hg, hc⟩
            case measure => simp [intOf]; omega
          · have hb1 : ((k : Int) != (l : Int) + 1) = true := by simp [hkl]
            have HKL := Lib.hid hkl
            clear hkl
            go_wp2_with fail
            refine (HD.out.call _ a (l + 1) wr HP.out.2.2.1 (by rw [HKS.out]; have e : (runsAt ks (i + 1)).1 = (runsAt ks i).1 ++ [(a, l + 1)] := by { rw [HS.out]; unfold runStep; rw [HDd.out]; simp only; rw [if_neg (by have := HKL.out; omega)] }; rw [← e]; exact runsAt_runs ks (by have := HN.out; omega)) (by have := runsAt_len ks i; omega) (by omega) (by omega)).mono ?_
            rintro e w2 ⟨rfl, hI2, hu2⟩
            have HI2 := Lib.hid hI2
            have HU2 := Lib.hid hu2
            clear hI2 hu2
            go_wp2_with fail
            go_roundw
            case rel =>
              refine ⟨i + 1, by go_num, by omega, ?_⟩
              obtain ⟨_, _, hI, hu, hg, hc⟩ := HP.out
              have e : runsAt ks (i + 1) = ((runsAt ks i).1 ++ [(a, l + 1)], some (k, k)) := by rw [HS.out]; unfold runStep; rw [HDd.out]; exact if_neg (by have := HKL.out; omega)
              have hgS : g ∉ S := fun hm => by have := HD.out.low g hm; omega
              refine ⟨by rw [e]; rfl, by rw [e]; rfl, by rw [e]; exact HI2.out, hu.trans' HU2.out, Nat.lt_of_lt_of_le hg HU2.out.size, fun j k' hj => ?_⟩
              exact (HU2.out.cell (p := ⟨g, j, none⟩) hg hgS).trans (hc j k' hj)
            case measure => simp [intOf]; omega
      · have hin : i = n := by omega
        subst hin
        have HR : Hid (runsOf ks = match (runsAt ks i).2 with | Option.none => (runsAt ks i).1 | some (a, l) => (runsAt ks i).1 ++ [(a, l + 1)]) := by
          unfold Hid runsOf
          rw [HN.out]
          cases h2 : (runsAt ks i).2 with
          | none => rw [show runsAt ks i = ((runsAt ks i).1, Option.none) from by rw [← h2]]
          | some al => rw [show runsAt ks i = ((runsAt ks i).1, some al) from by rw [← h2]]
        obtain ⟨d, hd⟩ : ∃ d, (runsAt ks i).2 = d := ⟨_, rfl⟩
        rw [hd]
        have HDd := Lib.hid hd
        clear hd
        cases d with
        | none =>
          dsimp only [curA, curL]
          go_wp2_with fail
          go_end0
          obtain ⟨_, _, hI, hu, _, _⟩ := HP.out
          exact ⟨rfl, by rw [HKS.out, HR.out, HDd.out]; exact hI, hu⟩
        | some al =>
          obtain ⟨a, l⟩ := al
          have hal := runsAt_bd HB.out i a l HDd.out
          have hal1 := hal.1
          have hal2 := hal.2
          clear hal
          dsimp only [curA, curL]
          go_wp2_with fail
          refine (HD.out.call _ a (l + 1) wr HP.out.2.2.1 (by rw [HKS.out, HR.out, HDd.out]; exact List.prefix_refl _) (by have := runsAt_len ks i; omega) (by omega) (by omega)).mono ?_
          rintro e w2 ⟨rfl, hI2, hu2⟩
          have HI2 := Lib.hid hI2
          have HU2 := Lib.hid hu2
          clear hI2 hu2
          go_wp2_with fail
          go_end0
          obtain ⟨_, _, hI, hu, _, _⟩ := HP.out
          exact ⟨rfl, by rw [HKS.out, HR.out, HDd.out]; exact HI2.out, hu.trans' HU2.out⟩
end Go.Proofs.Ytcjeipeeacnmmaa
