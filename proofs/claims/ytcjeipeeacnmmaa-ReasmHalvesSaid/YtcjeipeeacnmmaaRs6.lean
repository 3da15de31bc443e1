/-
  Contracts of package reasm: Put.
-/
import Derived.Test.YtcjeipeeacnmmaaRs5
import Derived.Test.YtcjeipeeacnmmaaQT
namespace Go.Proofs.Ytcjeipeeacnmmaa
open Go.RowKit Go.Deep Go.Maps

/-- f with the bytes l laid from place p on, where there is none -/
def fillF (f : Nat → Option UInt8) (p : Nat) (l : List UInt8) : Nat → Option UInt8 := fun j =>
  match f j with
  | some c => some c
  | Option.none => if p ≤ j then l[j - p]? else Option.none
theorem fillF_nil (f : Nat → Option UInt8) (p : Nat) : fillF f p [] = f := by
  funext j
  unfold fillF
  cases f j with
  | none => simp
  | some c => rfl
theorem fillF_there {f : Nat → Option UInt8} {p i : Nat} {l : List UInt8} (h : (f (p + i)).isSome = true) : fillF f p (l.take (i + 1)) = fillF f p (l.take i) := by
  funext j
  unfold fillF
  cases hf : f j with
  | some c => rfl
  | none =>
    by_cases hp : p ≤ j
    · have hne : j - p ≠ i := fun e => by
        have : j = p + i := by omega
        rw [this] at hf; rw [hf] at h; cases h
      simp only [if_pos hp, List.getElem?_take]
      by_cases h1 : j - p < i
      · simp [h1, Nat.lt_succ_of_lt h1]
      · have : ¬ j - p < i + 1 := by omega
        simp [h1, this]
    · simp [hp]
theorem fillF_lay {f : Nat → Option UInt8} {p i : Nat} {l : List UInt8} {c : UInt8} (h : f (p + i) = Option.none) (hc : l[i]? = some c) : upd (fillF f p (l.take i)) (p + i) (some c) = fillF f p (l.take (i + 1)) := by
  funext j
  unfold upd fillF
  by_cases hj : j = p + i
  · subst hj
    rw [if_pos rfl, h]
    have e : p + i - p = i := by omega
    simp [e, hc]
  · rw [if_neg hj]
    cases hf : f j with
    | some c => rfl
    | none =>
      by_cases hp : p ≤ j
      · have hne : j - p ≠ i := by omega
        simp only [if_pos hp, List.getElem?_take]
        by_cases h1 : j - p < i
        · simp [h1, Nat.lt_succ_of_lt h1]
        · have : ¬ j - p < i + 1 := by omega
          simp [h1, this]
      · simp [hp]
theorem fillF_at {f : Nat → Option UInt8} {p i : Nat} {l : List UInt8} : fillF f p (l.take i) (p + i) = f (p + i) := by
  unfold fillF
  cases hf : f (p + i) with
  | some c => rfl
  | none =>
    have e : p + i - p = i := by omega
    simp [e, List.getElem?_take]
theorem fillF_bound {f : Nat → Option UInt8} {p N : Nat} {l : List UInt8} (h : ∀ i, N ≤ i → f i = Option.none) (hl : p + l.length ≤ N ∨ l = []) : ∀ i, N ≤ i → fillF f p l i = Option.none := by
  intro i hi
  unfold fillF
  rw [h i hi]
  rcases hl with hl | hl
  · by_cases hp : p ≤ i
    · simp only [if_pos hp]
      exact List.getElem?_eq_none (by omega)
    · simp [hp]
  · subst hl; simp

def putOff (B : RB) (at_ : Int) : Int := ahd (bufAt B B.taken) at_
def putPart (B : RB) (at_ : Int) (data : List UInt8) : List UInt8 := cutB (putOff B at_) ((B.room : Int) - (B.taken : Int)) data
def putPl (B : RB) (at_ : Int) : Nat := B.taken + (putOff B at_).toNat
def putF (B : RB) (at_ : Int) (data : List UInt8) : Nat → Option UInt8 := fillF B.f (putPl B at_) (putPart B at_ data)
/-- how many runs do not begin at Next -/
def holesOf (taken : Nat) (d : List (Nat × Nat)) : Nat := (d.filter fun ab => taken < ab.1).length
def putHoles (B : RB) (at_ : Int) (data : List UInt8) : Nat := holesOf B.taken (runsOf (keysF B.room (putF B at_ data)))

theorem ahd_add {a n : Int} (_h0 : 0 ≤ a) (_h1 : a < 4294967296) (hn : -2147483648 ≤ n) (hn1 : n < 2147483648) : ahd a ((a + n) % 4294967296) = n := by
  unfold ahd wrap32; omega
theorem add_ahd {a b : Int} (h0 : 0 ≤ b) (h1 : b < 4294967296) : (a + ahd a b) % 4294967296 = b := by
  unfold ahd wrap32; omega
theorem bufAt_range (B : RB) (i : Nat) : 0 ≤ bufAt B i ∧ bufAt B i < 4294967296 := by
  unfold bufAt; omega

/-- Where the part begins, as far ahead of Next. -/
theorem cut_place {nx at_ long : Int} {n : Nat} (h0 : 0 ≤ nx) (h1 : nx < 4294967296) (a0 : 0 ≤ at_) (a1 : at_ < 4294967296) :
    ahd nx (cutAt at_ nx (ahd nx at_) long n) = if cHi (ahd nx at_) long n ≤ cLo (ahd nx at_) then 0 else (((ahd nx at_).toNat : Nat) : Int) := by
  have hr := ahd_range nx at_
  have e := add_ahd (a := nx) a0 a1
  by_cases hc : cHi (ahd nx at_) long n ≤ cLo (ahd nx at_)
  · rw [if_pos hc, cutAt_nil hc]
    unfold ahd wrap32; omega
  · rw [if_neg hc]
    unfold cutAt
    rw [if_neg hc]
    have e2 : (at_ + (cLo (ahd nx at_) : Int)) % 4294967296 = (nx + (((ahd nx at_).toNat : Nat) : Int)) % 4294967296 := by
      generalize ahd nx at_ = o at *
      unfold cLo
      omega
    rw [e2]
    exact ahd_add h0 h1 (by omega) (by omega)

theorem length_cutB (off long : Int) (l : List UInt8) : (cutB off long l).length = cHi off long l.length - cLo off := by
  unfold cutB cHi
  simp only [List.length_take, List.length_drop]
  omega
theorem putPart_fits (B : RB) (at_ : Int) (data : List UInt8) (h : B.taken ≤ B.room) : putPl B at_ + (putPart B at_ data).length ≤ B.room ∨ putPart B at_ data = [] := by
  by_cases hc : cHi (putOff B at_) ((B.room : Int) - (B.taken : Int)) data.length ≤ cLo (putOff B at_)
  · exact .inr (cutB_nil hc)
  · refine .inl ?_
    unfold putPart putPl
    rw [length_cutB]
    unfold cHi cLo at *
    omega
/-- .. as a place. -/
theorem put_place (B : RB) {at_ : Int} (data : List UInt8) (h : B.taken ≤ B.room) (hr : B.room ≤ 16384) (a0 : 0 ≤ at_) (a1 : at_ < 4294967296) :
    ∃ q : Nat, ahd (bufAt B B.taken) (cutAt at_ (bufAt B B.taken) (ahd (bufAt B B.taken) at_) ((B.room : Int) - (B.taken : Int)) data.length) = (q : Int) ∧
      putF B at_ data = fillF B.f (B.taken + q) (putPart B at_ data) ∧ (B.taken + q + (putPart B at_ data).length ≤ B.room ∨ putPart B at_ data = []) ∧ B.taken + q < 2147500032 := by
  have hc := cut_place (nx := bufAt B B.taken) (at_ := at_) (long := (B.room : Int) - (B.taken : Int)) (n := data.length) (bufAt_range B _).1 (bufAt_range B _).2 a0 a1
  have hfit := putPart_fits B at_ data h
  have hr2 := ahd_range (bufAt B B.taken) at_
  rw [hc]
  by_cases hcc : cHi (ahd (bufAt B B.taken) at_) ((B.room : Int) - (B.taken : Int)) data.length ≤ cLo (ahd (bufAt B B.taken) at_)
  · rw [if_pos hcc]
    have he : putPart B at_ data = [] := cutB_nil hcc
    refine ⟨0, rfl, ?_, .inr he, by omega⟩
    unfold putF
    rw [he, fillF_nil, fillF_nil]
  · rw [if_neg hcc]
    refine ⟨(ahd (bufAt B B.taken) at_).toNat, rfl, rfl, hfit, by omega⟩
end Go.Proofs.Ytcjeipeeacnmmaa
