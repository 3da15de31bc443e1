/-
  Contracts of package reasm: Take.
-/
import Derived.Test.YtcjeipeeacnmmaaRs2
import Derived.StillTailTactics
import Derived.Deep.AppendLies
namespace Go.Proofs.Ytcjeipeeacnmmaa
open Go.RowKit Go.Deep Go.Maps

/-- without what stands ahead of t -/
def cutF (f : Nat → Option UInt8) (t : Nat) : Nat → Option UInt8 := fun i => if i < t then Option.none else f i
theorem cutF_low {f : Nat → Option UInt8} {t : Nat} (h : ∀ i, i < t → f i = Option.none) : cutF f t = f := by
  funext i
  unfold cutF
  by_cases hi : i < t
  · rw [if_pos hi, h i hi]
  · rw [if_neg hi]
theorem cutF_succ (f : Nat → Option UInt8) (t : Nat) : upd (cutF f t) t Option.none = cutF f (t + 1) := by
  funext i
  unfold upd cutF
  by_cases hi : i = t
  · subst hi; simp
  · by_cases hl : i < t
    · simp [hi, hl, Nat.lt_succ_of_lt hl]
    · have : ¬ i < t + 1 := by omega
      simp [hi, hl, this]
/-- the buffer behind taking k bytes -/
def tookRB (B : RB) (k : Nat) : RB := { B with taken := B.taken + k, f := cutF B.f (B.taken + k) }

/-- the bytes of r places from t on -/
def bytesFrom (f : Nat → Option UInt8) (t r : Nat) : List UInt8 := (List.range r).map fun i => (f (t + i)).getD 0
theorem length_bytesFrom (f : Nat → Option UInt8) (t r : Nat) : (bytesFrom f t r).length = r := by simp [bytesFrom]
theorem bytesFrom_succ (f : Nat → Option UInt8) (t r : Nat) : bytesFrom f t (r + 1) = bytesFrom f t r ++ [(f (t + r)).getD 0] := by
  simp [bytesFrom, List.range_succ]

theorem Try.infoU8' : ∃ i0, Try.prog.info? 5 = some i0 ∧ i0.zero = some (.int .u8 0) ∧ i0.size = 1 ∧ i0.bytes = 1 := by
  obtain ⟨i0, a, b, c, d⟩ := info_parts Try.infoU8
  exact ⟨i0, a, b, c, d⟩

theorem own_base {w : World} {base e size : Nat} {v : Value} {n : Nat} {xs : List Value} (h : w.ownsRow base e size v n xs) (g : Nat) (hg : v.ownBlock = some g) : base ≤ g := by
  obtain ⟨_, h⟩ := h
  rcases h with ⟨rfl, _⟩ | ⟨g', cap, cur, rfl, hb, _⟩
  · cases hg
  · cases hg; exact hb
/-- what is owned as bytes are bytes -/
theorem bytes_of_own {w : World} {base e : Nat} {v : Value} {n : Nat} {l : List UInt8} (h : w.ownsRow base e 1 v n (l.map byteV)) : Bytes w v l := by
  obtain ⟨hl, h⟩ := h
  have hn : l.length = n := by simpa using hl
  subst hn
  rcases h with ⟨rfl, h0⟩ | ⟨g, cap, cur, rfl, _, hg, hc, _, _, ht⟩
  · have : l = [] := List.eq_nil_of_length_eq_zero h0
    subst this
    exact Bytes.nil w
  · refine ⟨_, cap, rfl, hc, nofun, fun p hp i c hi => ?_⟩
    cases hp
    have hadd : (⟨g, 0, none⟩ : Addr).add i = ⟨g, i, none⟩ := by
      unfold Addr.add
      by_cases h0 : i = 0
      · subst h0; simp
      · simp [h0]
    rw [hadd, cell_of_blk hg]
    have hi' : i < l.length := (List.getElem?_eq_some_iff.1 hi).1
    have : (cur.toList.take (l.length * 1))[i]? = (l.map byteV)[i]? := by rw [ht]
    rw [List.getElem?_take, if_pos (by omega), List.getElem?_map, hi] at this
    rw [← Array.getElem?_toList, this]
    rfl
/-- What Take leaves. -/
def Taken (p m : Nat) (B : RB) (w : World) (e : Ending) (w' : World) : Prop :=
  ∃ (r : Nat) (v : Value), IsRun B.f B.taken r ∧ e = .returned v ∧ Bytes w' v (bytesFrom B.f B.taken r) ∧ IsBuf w' p m (tookRB B r) ∧ Upd [p, m] w w' ∧ NewFrom w.heap.size v

set_option maxRecDepth 100000 in
set_option maxHeartbeats 3200000 in
theorem take_any {w : World} {p m : Nat} {B : RB} (h : IsBuf w p m B) :
    Calls Try.prog 9 #[.pointer (some ⟨p, 0, none⟩)] w (Taken p m B w) := by
  obtain ⟨i0, hi0, hz0, hz1, hz2⟩ := info_parts Try.infoU8
  have H := Lib.hid h
  clear h
  go_enter Try.func9, Try.ntmps9
  go_wp2_with fail
  refine (ready_any H.out).mono ?_
  rintro e w1 ⟨r, hr, rfl, nq, rfl⟩
  have HR := Lib.hid hr
  have hrN : B.taken + r ≤ B.room := by
    rcases Nat.eq_zero_or_pos r with h0 | h0
    · have := H.out.tr; omega
    · have h1 := hr.1 (r - 1) (by omega)
      have h2 : B.taken + (r - 1) < B.room := Nat.lt_of_not_le fun hh => by rw [H.out.map.bound _ hh] at h1; cases h1
      omega
  have hb2 := H.out.le
  have hp := H.out.plt
  have hm := H.out.mlt
  clear hr
  go_wp2_with fail
  go_loopw [4, 8] (fun u i wr => ∃ (v : Value) (k : Nat), v = u ∧ i = .int .i64 (k : Int) ∧ k ≤ r ∧ IsBuf wr p m (tookRB B k) ∧ wr.ownsRow w.heap.size 5 1 v k ((bytesFrom B.f B.taken k).map byteV) ∧ Upd [p, m] w wr)
    (fun _ i _ => r - (intOf i).toNat)
  case atStart =>
    refine ⟨_, 0, rfl, rfl, Nat.zero_le _, ?_, World.ownsRow_nil _ _ _ _, (Upd.refl _ _).drewN _⟩
    have e : tookRB B 0 = B := by
      unfold tookRB
      rw [Nat.add_zero, cutF_low H.out.low]
    rw [e]
    exact H.out.drewN _
  case round =>
    obtain ⟨v, k, rfl, rfl, hk, hB, hown, hu⟩ := hrel
    have HB := Lib.hid hB
    have HO := Lib.hid hown
    have HU := Lib.hid hu
    clear hB hown hu
    by_cases hlt : k < r
    · obtain ⟨T, hT⟩ : ∃ T, T = B.taken + k := ⟨_, rfl⟩
      have c1 := HB.out.c1
      have c3 := HB.out.c3
      have e1 : (tookRB B k).taken = T := hT.symm
      rw [e1] at c1
      have hTb : T < 16384 := by omega
      have HT := Lib.hid hT
      clear hT e1
      obtain ⟨c, hfc⟩ : ∃ c, B.f T = some c := by
        have := HR.out.1 k hlt
        rw [← HT.out] at this
        exact Option.isSome_iff_exists.1 this
      have hcut : (tookRB B k).f T = some c := by
        show cutF B.f (B.taken + k) T = some c
        rw [← HT.out]; unfold cutF; rw [if_neg (Nat.lt_irrefl _)]; exact hfc
      have HC := Lib.hid hcut
      have HF := Lib.hid hfc
      clear hcut hfc
      have hlook : ∀ W : World, W.heap[m]? = wr.heap[m]? → (Instr.lookup 57 (.map (some m)) (.int .i64 (T : Int)) false).run Try.prog W = .ok (.int .u8 (c.toNat : Int)) W := by
        intro W hW
        have := (HB.out.map.of_block hW).look1 Try.underK Try.underE Try.underM (Try.zeroE _) (i := T) (by omega)
        rw [HC.out] at this
        exact this
      have HL := Lib.hid hlook
      have hpr := HB.out.plt
      have hmr := HB.out.mlt
      have hsz := HU.out.size
      have hL0 := hlook wr rfl
      clear hlook
      have hob : ∀ g, v.ownBlock = some g → w.heap.size ≤ g := own_base HO.out
      have hop : v.ownBlock ≠ some p := fun e => by have := hob p e; omega
      have hom : v.ownBlock ≠ some m := fun e => by have := hob m e; omega
      have HP := Lib.hid hop
      have HM := Lib.hid hom
      clear hop hom hob
      go_wp2_with fail
      go_region_held3 (fun w' => w'.cell? ⟨p, 1, none⟩ = some (.int .i64 (T : Int)) ∧ w'.cell? ⟨p, 3, none⟩ = some (.map (some m)) ∧ (Instr.lookup 57 (.map (some m)) (.int .i64 (T : Int)) false).run Try.prog w' = .ok (.int .u8 (c.toNat : Int)) w')
        (first
          | (go_split_ands
             refine ⟨by go_keep, by go_keep, ?_⟩
             first | exact HL.out _ rfl | exact HL.out _ (Below.heap_alloc _ _ _ hmr))
          | (go_split_ands
             refine ⟨?_, ?_, HL.out _ ((hgrow.block _ (by simp; omega) (Ne.symm HM.out)).trans (Below.heap_alloc _ _ _ hmr))⟩
             · (rw [hgrow.cell_far _ (by simp; omega) (Ne.symm HP.out)]; assumption)
             · (rw [hgrow.cell_far _ (by simp; omega) (Ne.symm HP.out)]; assumption)))
        ((refine step_append_lies _ (by rfl) _ _ _ (by rfl) w.heap.size 5 i0 _ 1 1 Try.under22 hi0 hz0 hz1 hz2 rfl (by omega) v k _ (by rfl) ((HO.out.alloc _).drew)
            ⟨wr.heap.size, 0, none⟩ 1 1 [.int .u8 (c.toNat : Int)] (by rfl) (by rfl) (World.news_of_block (cs := #[.int .u8 (c.toNat : Int)]) (t := 5) (fr := (0, 0)) (block_new wr _)) (by simp [Value.oneCell'])
            (by omega) (by unfold maxLen; omega) (by omega) (by simp; omega) (wr.heap.size + 1) (by simp) ?_; intro gg cap w1 hown1 hgrow hat hlt))
      have hB1 : IsBuf w1 p m (tookRB B k) := ((HB.out.alloc _).drewN 1).grown hgrow HP.out HM.out
      have hU1 : Upd [p, m] w w1 := ((HU.out.alloc _).drewN 1).grow hgrow fun g hg => .inr (own_base HO.out g hg)
      clear hgrow hat HB HO HU HL HP HM hL0 c1 c3
      have c1 := hB1.c1
      have c3 := hB1.c3
      have f1 := frozen_of_blk hB1.blk 1
      rw [show (tookRB B k).taken = T from HT.out.symm] at c1
      obtain ⟨w2, hdel, hM2, hturn⟩ := (hB1.map.of_block (w' := w1.drew) rfl).drop Try.underK Try.underM (i := T) (by omega) 0
      have hg2 := hturn.grown
      have hne := hB1.ne
      have hp1 := hB1.plt
      have d1 : w2.cell? ⟨p, 1, none⟩ = some (.int .i64 (T : Int)) := (hg2.cell_far _ hp1 (by simp; omega)).trans c1
      have d1f : w2.frozen? ⟨p, 1, none⟩ = false := (hg2.frozen_far _ hp1 (by simp; omega)).trans f1
      have K1 := Lib.hid (And.intro hB1 (And.intro hU1 (And.intro hown1 (And.intro hM2 (And.intro hg2 hne)))))
      clear hB1 hU1 hown1 hM2 hg2 hturn hne
      go_wp2_with fail
      go_still_tail 8, (by kernel_rfl)
      go_wp2_with fail
      go_roundw
      case rel =>
        obtain ⟨hB1, hU1, hown1, hM2, hg2, hne⟩ := K1.out
        have hgm : gg ≠ m := fun e => by have := own_base hown1 gg rfl; omega
        have hblk : w2.heap[p]? = w1.heap[p]? := hg2.block p hp1 (by simp; omega)
        refine ⟨_, k + 1, rfl, by go_num, by omega, ?_, ?_, ?_⟩
        · have hT1 : (tookRB B (k + 1)).taken = T + 1 := by rw [HT.out]; rfl
          have hf1 : (tookRB B (k + 1)).f = upd (tookRB B k).f T Option.none := by rw [HT.out]; exact (cutF_succ B.f (B.taken + k)).symm
          refine ⟨?_, ?_, ?_, ?_, hB1.le, hB1.f0, hB1.f1⟩
          · rw [hT1]
            have := blk_setCell (hblk.trans hB1.blk) 1 (.int .i64 ((T : Int) + 1))
            rw [this]
            rfl
          · rw [hf1]
            exact hM2.of_block (blk_setCell_ne hne _)
          · intro i hi
            rw [hT1] at hi
            show cutF B.f (B.taken + (k + 1)) i = Option.none
            unfold cutF
            rw [if_pos (by have := HT.out; omega)]
          · rw [hT1]
            show T + 1 ≤ B.room
            have := HT.out
            omega
        · have e : (bytesFrom B.f B.taken (k + 1)).map byteV = (bytesFrom B.f B.taken k).map byteV ++ [Value.int .u8 (c.toNat : Int)] := by
            rw [bytesFrom_succ, List.map_append, ← HT.out, HF.out]
            rfl
          rw [e]
          have h2 := (show w1.drew.ownsRow _ _ _ _ _ _ from hown1.drew).kept hg2 (.inr (by simp [Value.ownBlock]; omega))
          exact ownsRow_setCell_below (a := ⟨p, 1, none⟩) h2 hp _
        · exact (hU1.drew.grow hg2 (fun g hg => by cases hg; exact .inl (by simp))).setCell (.inl (by simp)) _
      case measure => simp [intOf]; omega
    · go_wp2
      go_ret
      have hkr : k = r := by omega
      subst hkr
      refine ⟨k, _, HR.out, rfl, ?_, HB.out, HU.out, fun p n c he => ?_⟩
      rotate_left
      · exact own_base HO.out p.block (by subst he; rfl)
      have := bytes_of_own HO.out
      exact this
end Go.Proofs.Ytcjeipeeacnmmaa
