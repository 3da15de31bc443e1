/-
  Contracts of package reasm: the sorted places of a map (slices.Sorted of maps.Keys), and pieces.
-/
import Derived.Test.YtcjeipeeacnmmaaRs3
import Derived.Test.YtcjeipeeacnmmaaLay
namespace Go.Proofs.Ytcjeipeeacnmmaa
open Go.RowKit Go.Deep Go.Maps Go.Sort Go.Shelf

theorem Try.sorts (m : Nat) : Go.Proofs.AnyZI.SortsIn Try.prog Try.sortedA_ren Fence.wide m :=
  ⟨fun blk off cap ss W hH hblk hsz => callsIn_wide.2 (Go.Proofs.AnyM.slices_Sort_int Try.sortA blk off cap ss W hH hblk hsz),
   fun p cap W => callsIn_wide.2 (Go.Proofs.AnyM.slices_Sort_int_none Try.sortA p cap W)⟩

theorem keys_call (b : Nat) (w : World) : Calls Try.prog 43 #[.map (some b)] w fun e w' => e = .returned (.func (.func 66) #[] #[.pointer (some ⟨w.heap.size, 0, none⟩)]) ∧ w.alloc (.cells #[.map (some b)] 57) = w' :=
  ((callsIn_wide (n := 5)).1 (Go.Proofs.AnyZI.keys_in Try.keysA Fence.wide 5 trivial rfl (some b) w)).mono fun _ _ ⟨he, hw⟩ => ⟨he, hw.symm⟩

theorem sorted_call0 {w : World} {b N : Nat} {f : Nat → Option UInt8} (h : MapAt Try.prog 3 5 w b N f) (hN : N ≤ 16384) :
    Calls Try.prog 42 #[.func (.func 66) #[] #[.pointer (some ⟨w.heap.size, 0, none⟩)]] (w.alloc (.cells #[.map (some b)] 57)) fun e w' => ∃ (v : Value) (ss : List Int), e = .returned v ∧ ss.Perm (intKeys (datF N f)) ∧
      w'.ownsRow (w.heap.size + 1) 3 1 v ss.length ((ss.mergeSort (fun x y => decide (x ≤ y))).map encZ) ∧ Upd [] (w.alloc (.cells #[.map (some b)] 57)) w' := by
  have hown := h.own
  have hbl := hown.lt
  have hsz : Maps.size (datF N f) ≤ 16384 := by rw [size_datF]; exact Nat.le_trans (keysF_le _ _) hN
  have hseq : SeqGives Fence.wide 2 Try.prog 66 #[.pointer (some ⟨w.heap.size, 0, none⟩)] encZ (fun ss => ss.Perm (intKeys (datF N f))) (Maps.size (datF N f)) (w.alloc (.cells #[.map (some b)] 57)) :=
    Go.Proofs.AnyZI.keys_gives (ρ := Try.keysA_ren) { Try.keysA with } Fence.wide _ trivial rfl (by omega) w.heap.size b N (datF N f) _ (by simp) (by simp) (by
      obtain ⟨es, clock, hb, Ft, hs, hD⟩ := hown
      exact ⟨es, clock, (Below.heap_alloc _ _ b hbl).trans hb, Ft, hs, hD⟩)
  have cS := Go.Proofs.AnyZI.sorted_in Try.sortedA Fence.wide 5 trivial trivial trivial trivial rfl (by omega) (Try.sorts _) (enters_of Try.func65 (by kernel_rfl) rfl) 66 #[.pointer (some ⟨w.heap.size, 0, none⟩)] trivial (enters_of Try.func66 (by kernel_rfl) rfl) _ _ (by unfold maxLen; omega) (by omega) _ hseq
  refine ((callsIn_wide (n := 5)).1 cS).mono ?_
  rintro e w' ⟨v, ss, he, hp, ho, _, hb⟩
  refine ⟨v, ss, he, hp, ?_, Upd.of_below hb _⟩
  have e1 : (w.alloc (.cells #[.map (some b)] 57)).heap.size = w.heap.size + 1 := by simp
  rw [e1] at ho
  exact ho

theorem intKeys_datF (N : Nat) (f : Nat → Option UInt8) : intKeys (datF N f) = (keysF N f).map (fun k : Nat => (k : Int)) := by
  unfold datF entL keysF
  show List.map _ _ = _
  induction N with
  | zero => rfl
  | succ n ih =>
    rw [List.range_succ, List.filterMap_append, List.filter_append, List.map_append, List.map_append, ih]
    congr 1
    cases hf : f n with
    | none => simp [ent, hf]
    | some c => simp [ent, hf]; rfl
theorem perm_sorted_eq {ss ks : List Int} (hp : ss.Perm ks) (hk : ks.Pairwise (fun a b => a ≤ b)) : ss.mergeSort (fun x y => decide (x ≤ y)) = ks := by
  have h1 : (ss.mergeSort (fun x y => decide (x ≤ y))).Perm ks := (List.mergeSort_perm ss _).trans hp
  have h2 : (ss.mergeSort (fun x y => decide (x ≤ y))).Pairwise (fun a b => a ≤ b) := by
    have := List.pairwise_mergeSort (le := fun x y : Int => decide (x ≤ y)) (by intro a b c; simp; omega) (by intro a b; simp; omega) ss
    simpa using this
  exact h1.eq_of_pairwise (fun a b _ _ h h' => Int.le_antisymm h h') h2 hk

theorem keysF_lt (N : Nat) (f : Nat → Option UInt8) : (keysF N f).Pairwise (fun a b => a < b) := by
  unfold keysF
  exact List.Pairwise.filter _ List.pairwise_lt_range
theorem mem_keysF {N : Nat} {f : Nat → Option UInt8} {k : Nat} : k ∈ keysF N f ↔ k < N ∧ (f k).isSome = true := by
  unfold keysF; simp

/-- What slices.Sorted(maps.Keys(m)) hands back: the places that have a byte, in order. -/
theorem sorted_call {w : World} {b N : Nat} {f : Nat → Option UInt8} (h : MapAt Try.prog 3 5 w b N f) (hN : N ≤ 16384) :
    Calls Try.prog 42 #[.func (.func 66) #[] #[.pointer (some ⟨w.heap.size, 0, none⟩)]] (w.alloc (.cells #[.map (some b)] 57)) fun e w' => ∃ v : Value, e = .returned v ∧
      w'.ownsRow (w.heap.size + 1) 3 1 v (keysF N f).length ((keysF N f).map fun k : Nat => Value.int .i64 (k : Int)) ∧ Upd [] w w' := by
  refine (sorted_call0 h hN).mono ?_
  rintro e w' ⟨v, ss, he, hp, ho, hu⟩
  rw [intKeys_datF] at hp
  have hs : ((keysF N f).map (fun k : Nat => (k : Int))).Pairwise (fun a b => a ≤ b) := by
    rw [List.pairwise_map]
    exact (keysF_lt N f).imp fun h => by omega
  rw [perm_sorted_eq hp hs] at ho
  have hl : ss.length = (keysF N f).length := by rw [hp.length_eq]; simp
  rw [hl, List.map_map] at ho
  refine ⟨v, he, ho, ?_⟩
  exact ((Upd.refl [] w).alloc _).trans' (hu.mono fun k hk => by cases hk) |>.mono fun k hk => by cases hk

/-- one more place: the runs so far, and the one that goes on -/
def runStep (s : List (Nat × Nat) × Option (Nat × Nat)) (k : Nat) : List (Nat × Nat) × Option (Nat × Nat) :=
  match s.2 with
  | Option.none => (s.1, some (k, k))
  | some (a, l) => if k = l + 1 then (s.1, some (a, k)) else (s.1 ++ [(a, l + 1)], some (k, k))
def runsAt (ks : List Nat) (i : Nat) : List (Nat × Nat) × Option (Nat × Nat) := (ks.take i).foldl runStep ([], Option.none)
/-- the runs of places: where each begins, and the place behind its last one -/
def runsOf (ks : List Nat) : List (Nat × Nat) :=
  match runsAt ks ks.length with
  | (d, Option.none) => d
  | (d, some (a, l)) => d ++ [(a, l + 1)]
theorem runsAt_succ {ks : List Nat} {i k : Nat} (h : ks[i]? = some k) : runsAt ks (i + 1) = runStep (runsAt ks i) k := by
  unfold runsAt
  rw [List.take_add_one, h, List.foldl_append]
  rfl
theorem runsAt_bd {ks : List Nat} {N : Nat} (h : ∀ (i k : Nat), ks[i]? = some k → k < N) : ∀ (i a l : Nat), (runsAt ks i).2 = some (a, l) → a < N ∧ l < N
  | 0, a, l, e => by cases e
  | i + 1, a, l, e => by
    have ih := runsAt_bd h i
    cases hk : ks[i]? with
    | none =>
      have e1 : runsAt ks (i + 1) = runsAt ks i := by
        unfold runsAt
        rw [List.take_add_one, hk]
        simp
      rw [e1] at e
      exact ih a l e
    | some k =>
      have hkN := h i k hk
      rw [runsAt_succ hk] at e
      unfold runStep at e
      cases hc : (runsAt ks i).2 with
      | none => rw [hc] at e; simp only [Option.some.injEq, Prod.mk.injEq] at e; omega
      | some al =>
        obtain ⟨a', l'⟩ := al
        have := ih a' l' hc
        rw [hc] at e
        simp only at e
        split at e
        · simp only [Option.some.injEq, Prod.mk.injEq] at e; omega
        · simp only [Option.some.injEq, Prod.mk.injEq] at e; omega
theorem runsAt_len (ks : List Nat) : ∀ i, (runsAt ks i).1.length ≤ i
  | 0 => Nat.le_refl _
  | i + 1 => by
    have ih := runsAt_len ks i
    cases hk : ks[i]? with
    | none =>
      have e1 : runsAt ks (i + 1) = runsAt ks i := by
        unfold runsAt
        rw [List.take_add_one, hk]
        simp
      rw [e1]; omega
    | some k =>
      rw [runsAt_succ hk]
      unfold runStep
      split
      · simp only; omega
      · split
        · simp only; omega
        · simp only [List.length_append, List.length_cons, List.length_nil]; omega
theorem runsAt_more (ks : List Nat) (i : Nat) : (runsAt ks i).1 <+: (runsAt ks (i + 1)).1 := by
  cases hk : ks[i]? with
  | none =>
    have e1 : runsAt ks (i + 1) = runsAt ks i := by
      unfold runsAt
      rw [List.take_add_one, hk]
      simp
    rw [e1]; exact List.prefix_refl _
  | some k =>
    rw [runsAt_succ hk]
    unfold runStep
    split
    · exact List.prefix_refl _
    · split
      · exact List.prefix_refl _
      · exact List.prefix_append _ _
theorem runsAt_upto (ks : List Nat) (i : Nat) : ∀ j, i ≤ j → (runsAt ks i).1 <+: (runsAt ks j).1
  | 0, h => by
    have : i = 0 := by omega
    subst this; exact List.prefix_refl _
  | j + 1, h => by
    by_cases hj : i ≤ j
    · exact (runsAt_upto ks i j hj).trans (runsAt_more ks j)
    · have : i = j + 1 := by omega
      subst this; exact List.prefix_refl _
theorem runsAt_runs (ks : List Nat) {i : Nat} (h : i ≤ ks.length) : (runsAt ks i).1 <+: runsOf ks := by
  refine (runsAt_upto ks i _ h).trans ?_
  unfold runsOf
  split
  · rename_i h2; rw [h2]; exact List.prefix_refl _
  · rename_i h2; rw [h2]; exact List.prefix_append _ _
def curA : Option (Nat × Nat) → Int
  | Option.none => -1
  | some (a, _) => (a : Int)
def curL : Option (Nat × Nat) → Int
  | Option.none => -1
  | some (_, l) => (l : Int)
end Go.Proofs.Ytcjeipeeacnmmaa
