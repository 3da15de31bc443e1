/-
  ReasmHalves: the plain part. Buffers that hold just what stands from a place on.
-/
import Derived.Test.YtcjeipeeacnmmaaRs10
namespace Go.Proofs.Ytcjeipeeacnmmaa
open Go.RowKit

/-- the bytes of S from place x on -/
def sufF (S : List UInt8) (x : Nat) : Nat → Option UInt8 := fun j => if x ≤ j then S[j]? else Option.none
/-- a buffer of room 400, of which t were taken, with the bytes of S from x on -/
def sufRB (first : Int) (S : List UInt8) (t x : Nat) : RB := ⟨first, t, 400, sufF S x⟩

theorem sufF_none (S : List UInt8) {x : Nat} (h : S.length ≤ x) : sufF S x = fun _ => Option.none := by
  funext j
  unfold sufF
  by_cases hj : x ≤ j
  · rw [if_pos hj, List.getElem?_eq_none (by omega)]
  · rw [if_neg hj]

theorem runsOf_range' (x : Nat) : ∀ m, runsAt (List.range' x (m + 1)) (m + 1) = ([], some (x, x + m))
  | 0 => by simp [runsAt, runStep, List.range'_succ]
  | m + 1 => by
    have ih := runsOf_range' x m
    have hlen : (List.range' x (m + 1)).length = m + 1 := List.length_range'
    have e : List.range' x (m + 1 + 1) = List.range' x (m + 1) ++ [x + (m + 1)] := by
      rw [List.range'_concat]; simp
    unfold runsAt at *
    rw [List.take_of_length_le (by simp)] at *
    rw [e, List.foldl_append, ih]
    simp [runStep]
    omega
theorem runs_range' (x m : Nat) : runsOf (List.range' x m) = if m = 0 then [] else [(x, x + m)] := by
  cases m with
  | zero => rfl
  | succ m =>
    unfold runsOf
    rw [List.length_range', runsOf_range' x m]
    simp
    omega

theorem keys_suf {S : List UInt8} {x : Nat} (hn : S.length ≤ 400) (hx : x ≤ S.length) : keysF 400 (sufF S x) = List.range' x (S.length - x) := by
  unfold keysF
  have e : List.range 400 = List.range' 0 x ++ (List.range' x (S.length - x) ++ List.range' S.length (400 - S.length)) := by
    have h1 := List.range'_append_1 (s := x) (m := S.length - x) (n := 400 - S.length)
    rw [show x + (S.length - x) = S.length by omega] at h1
    rw [h1]
    have h2 := List.range'_append_1 (s := 0) (m := x) (n := S.length - x + (400 - S.length))
    rw [Nat.zero_add] at h2
    rw [h2, List.range_eq_range']
    congr 1
    omega
  rw [e, List.filter_append, List.filter_append]
  have h1 : (List.range' 0 x).filter (fun k => (sufF S x k).isSome) = [] := by
    rw [List.filter_eq_nil_iff]
    intro a ha
    rw [List.mem_range'_1] at ha
    unfold sufF
    rw [if_neg (by omega)]
    simp
  have h2 : (List.range' x (S.length - x)).filter (fun k => (sufF S x k).isSome) = List.range' x (S.length - x) := by
    rw [List.filter_eq_self]
    intro a ha
    rw [List.mem_range'_1] at ha
    unfold sufF
    rw [if_pos (by omega), List.getElem?_eq_getElem (by omega)]
    rfl
  have h3 : (List.range' S.length (400 - S.length)).filter (fun k => (sufF S x k).isSome) = [] := by
    rw [List.filter_eq_nil_iff]
    intro a ha
    rw [List.mem_range'_1] at ha
    unfold sufF
    rw [if_pos (by omega), List.getElem?_eq_none (by omega)]
    simp
  rw [h1, h2, h3]
  simp

/-- what is laid there when a stretch of S comes that closes up -/
theorem fill_suf {S : List UInt8} {x d e : Nat} (hde : d ≤ e) (he : e ≤ S.length) (hx : x ≤ e) : fillF (sufF S x) d ((S.drop d).take (e - d)) = sufF S (min x d) := by
  funext j
  unfold fillF sufF
  by_cases h1 : x ≤ j
  · rw [if_pos h1, if_pos (show min x d ≤ j by omega)]
    cases hj : S[j]? with
    | some c => rfl
    | none =>
      have hjn : S.length ≤ j := List.getElem?_eq_none_iff.1 hj
      by_cases h2 : d ≤ j
      · simp only [if_pos h2]
        exact List.getElem?_eq_none (by simp; omega)
      · simp [h2]
  · rw [if_neg h1]
    by_cases h2 : d ≤ j
    · rw [if_pos (show min x d ≤ j by omega)]
      simp only [if_pos h2]
      rw [List.getElem?_take, if_pos (by omega), List.getElem?_drop, show d + (j - d) = j by omega]
    · rw [if_neg (show ¬ min x d ≤ j by omega)]
      simp [h2]

theorem ahd_suf {first : Int} (_h0 : 0 ≤ first) (_h1 : first < 4294967296) {t d : Nat} (S : List UInt8) (x : Nat) (htd : t ≤ d) (hd : d ≤ 400) : ahd (bufAt (sufRB first S t x) t) ((first + (d : Int)) % 4294967296) = (d : Int) - (t : Int) := by
  unfold ahd bufAt wrap32 sufRB
  simp only
  omega

/-- Put of a stretch that closes up: all of it is laid, and there is one piece at most that waits. -/
theorem put_suf {first : Int} (h0 : 0 ≤ first) (h1 : first < 4294967296) {S : List UInt8} (hn : S.length ≤ 300) {t x d e : Nat} (htd : t ≤ d) (hde : d ≤ e) (he : e ≤ S.length) (hx : x ≤ e) :
    putF (sufRB first S t x) ((first + (d : Int)) % 4294967296) ((S.drop d).take (e - d)) = sufF S (min x d) ∧
    putHoles (sufRB first S t x) ((first + (d : Int)) % 4294967296) ((S.drop d).take (e - d)) ≤ 16 ∧
    ((keysF 400 (putF (sufRB first S t x) ((first + (d : Int)) % 4294967296) ((S.drop d).take (e - d)))).length : Int) - ((keysF 400 (sufF S x)).length : Int) = ((x - min x d : Nat) : Int) := by
  have hlen : ((S.drop d).take (e - d)).length = e - d := by simp; omega
  have hoff := ahd_suf h0 h1 S x htd (by omega)
  have hpart : putPart (sufRB first S t x) ((first + (d : Int)) % 4294967296) ((S.drop d).take (e - d)) = (S.drop d).take (e - d) := by
    unfold putPart putOff
    rw [show (sufRB first S t x).taken = t from rfl, hoff]
    unfold cutB
    have hlo : cLo ((d : Int) - (t : Int)) = 0 := by unfold cLo; omega
    have hhi : cHi ((d : Int) - (t : Int)) (((sufRB first S t x).room : Int) - (t : Int)) ((S.drop d).take (e - d)).length = e - d := by
      rw [hlen]
      show cHi ((d : Int) - (t : Int)) (((400 : Nat) : Int) - (t : Int)) (e - d) = e - d
      unfold cHi; omega
    rw [hlo, hhi, List.drop_zero, Nat.sub_zero, List.take_of_length_le (by omega)]
  have hpl : putPl (sufRB first S t x) ((first + (d : Int)) % 4294967296) = d := by
    unfold putPl putOff
    rw [show (sufRB first S t x).taken = t from rfl, hoff]
    omega
  have hF : putF (sufRB first S t x) ((first + (d : Int)) % 4294967296) ((S.drop d).take (e - d)) = sufF S (min x d) := by
    unfold putF
    rw [hpart, hpl]
    exact fill_suf hde he hx
  refine ⟨hF, ?_, ?_⟩
  · unfold putHoles
    rw [hF, show (sufRB first S t x).room = 400 from rfl, keys_suf (by omega) (by omega), runs_range']
    split
    · exact Nat.zero_le _
    · unfold holesOf
      exact Nat.le_trans (List.length_filter_le _ _) (by simp)
  · rw [hF, keys_suf (by omega) (by omega), keys_suf (by omega) (by omega), List.length_range', List.length_range']
    omega

theorem run_suf {S : List UInt8} {t x : Nat} (ht : t ≤ S.length) (hx : x ≤ t) : IsRun (sufF S x) t (S.length - t) := by
  refine ⟨fun i hi => ?_, ?_⟩
  · unfold sufF
    rw [if_pos (by omega), List.getElem?_eq_getElem (by omega)]
    rfl
  · unfold sufF
    rw [if_pos (by omega), List.getElem?_eq_none (by omega)]
theorem run_suf0 {S : List UInt8} {t x : Nat} (hx : t < x) : IsRun (sufF S x) t 0 := by
  refine ⟨fun i hi => absurd hi (Nat.not_lt_zero i), ?_⟩
  unfold sufF
  rw [if_neg (by omega)]
theorem bytes_suf {S : List UInt8} {t x : Nat} (hx : x ≤ t) : bytesFrom (sufF S x) t (S.length - t) = S.drop t := by
  apply List.ext_getElem
  · simp [bytesFrom]
  · intro i h1 h2
    simp only [bytesFrom, List.length_map, List.length_range] at h1
    simp only [bytesFrom, List.getElem_map, List.getElem_range, List.getElem_drop]
    unfold sufF
    rw [if_pos (by omega), List.getElem?_eq_getElem (by omega)]
    rfl
theorem took_suf {first : Int} {S : List UInt8} {t x : Nat} (ht : t ≤ S.length) (hx : x ≤ t) : tookRB (sufRB first S t x) (S.length - t) = sufRB first S S.length S.length := by
  unfold tookRB sufRB
  simp only
  rw [show t + (S.length - t) = S.length by omega]
  congr 1
  funext j
  unfold cutF sufF
  by_cases h : j < S.length
  · rw [if_pos h, if_neg (by omega)]
  · rw [if_neg h, if_pos (by omega), if_pos (by omega)]

section
variable {P : Program} {t e : TypeId}
theorem run_slice_from (ht : P.underlying t = some (.slice e)) (he : (P.info? e).map (·.size) = some 1) {w : World} {a : Option Addr} {n cap : Nat} {l : List UInt8} (h : Bytes w (.slice a n cap) l) {k : Nat} (hk : k ≤ l.length) :
    ∃ v, (∀ W, (Instr.slice t (.slice a n cap) (some (.int .i64 (k : Int))) Option.none Option.none).run P W = .ok v W) ∧ Bytes w v (l.drop k) := by
  have hn : n = l.length ∧ l.length ≤ cap := by
    obtain ⟨a', cap', he, hc1, _⟩ := h
    injection he with e1 e2 e3
    exact ⟨e2, e3 ▸ hc1⟩
  have hp := h.part (lo := k) (hi := l.length) (mx := cap) hk (Nat.le_refl _) hn.2 (Nat.le_refl _)
  rw [List.take_of_length_le (by simp)] at hp
  refine ⟨_, fun W => ?_, hp⟩
  obtain ⟨i, hi, hs⟩ := Option.map_eq_some_iff.1 he
  have hk' : (0 : Int) ≤ (k : Int) ∧ (k : Int) ≤ (n : Int) := by omega
  simp [Instr.slice, Instr.sliceBounds, run_underlying ht, sizeOf, typeInfo, hi, hs, hn.1]
  rw [run_sliceBound _ _ _ _ _ (by omega) (by omega)]
  simp [Result.andThen]
theorem run_slice_to (ht : P.underlying t = some (.slice e)) (he : (P.info? e).map (·.size) = some 1) {w : World} {a : Option Addr} {n cap : Nat} {l : List UInt8} (h : Bytes w (.slice a n cap) l) {k : Nat} (hk : k ≤ l.length) :
    ∃ v, (∀ W, (Instr.slice t (.slice a n cap) Option.none (some (.int .i64 (k : Int))) Option.none).run P W = .ok v W) ∧ Bytes w v (l.take k) := by
  have hn : n = l.length ∧ l.length ≤ cap := by
    obtain ⟨a', cap', he, hc1, _⟩ := h
    injection he with e1 e2 e3
    exact ⟨e2, e3 ▸ hc1⟩
  have hp := h.part (lo := 0) (hi := k) (mx := cap) (Nat.zero_le _) hk (by omega) (Nat.le_refl _)
  rw [List.drop_zero, Nat.sub_zero] at hp
  refine ⟨_, fun W => ?_, hp⟩
  obtain ⟨i, hi, hs⟩ := Option.map_eq_some_iff.1 he
  simp [Instr.slice, Instr.sliceBounds, run_underlying ht, sizeOf, typeInfo, hi]
  rw [run_sliceBound _ _ _ _ _ (by omega) (by omega)]
  simp [Result.andThen]
end
end Go.Proofs.Ytcjeipeeacnmmaa
