/-
  A map from int to byte as a function with a bound: what it reads as, and what look-up, store, delete and len do to it.
-/
import Derived.Maps.OwnSet
import Derived.Maps.Ext
import Derived.WalkKit
namespace Go.Proofs.Ytcjeipeeacnmmaa
open Go.RowKit Go.Maps

def ent (f : Nat → Option UInt8) (k : Nat) : Option (Lit × DataW Unit) := (f k).map fun c => (Lit.int .i64 (k : Int), DataW.lit (Lit.int .u8 (c.toNat : Int)))
def entL (N : Nat) (f : Nat → Option UInt8) : List (Lit × DataW Unit) := (List.range N).filterMap (ent f)
def datF (N : Nat) (f : Nat → Option UInt8) : DataW Unit := .map (entL N f)
/-- the places that have a byte, in order -/
def keysF (N : Nat) (f : Nat → Option UInt8) : List Nat := (List.range N).filter fun k => (f k).isSome
def upd (f : Nat → Option UInt8) (k : Nat) (v : Option UInt8) : Nat → Option UInt8 := fun i => if i = k then v else f i
theorem upd_same (f : Nat → Option UInt8) (k : Nat) (v : Option UInt8) : upd f k v k = v := by simp [upd]
theorem upd_ne (f : Nat → Option UInt8) {k i : Nat} (v : Option UInt8) (h : i ≠ k) : upd f k v i = f i := by simp [upd, h]

theorem mem_entL {N : Nat} {f : Nat → Option UInt8} {p : Lit × DataW Unit} : p ∈ entL N f ↔ ∃ (k : Nat) (c : UInt8), k < N ∧ f k = some c ∧ p = (Lit.int .i64 (k : Int), DataW.lit (Lit.int .u8 (c.toNat : Int))) := by
  unfold entL
  rw [List.mem_filterMap]
  constructor
  · rintro ⟨k, hk, he⟩
    rw [List.mem_range] at hk
    unfold ent at he
    cases hf : f k with
    | none => rw [hf] at he; cases he
    | some c => rw [hf] at he; exact ⟨k, c, hk, hf, by simpa using he.symm⟩
  · rintro ⟨k, c, hk, hf, rfl⟩
    exact ⟨k, List.mem_range.2 hk, by simp [ent, hf]⟩

theorem canon_datF (N : Nat) (f : Nat → Option UInt8) : Canon (datF N f) := by
  refine ⟨entL N f, rfl, ?_, ?_⟩
  · unfold entL
    refine List.Pairwise.filterMap (R := fun a b : Nat => a < b) (ent f) ?_ List.pairwise_lt_range
    intro a a' h b hb b' hb'
    unfold ent at hb hb'
    cases hf : f a with
    | none => rw [hf] at hb; cases hb
    | some c =>
      cases hf' : f a' with
      | none => rw [hf'] at hb'; cases hb'
      | some c' =>
        rw [hf] at hb; rw [hf'] at hb'
        simp only [Option.map_some, Option.some.injEq] at hb hb'
        subst hb; subst hb'
        simp only [Lit.before, decide_eq_true_eq]
        omega
  · intro p hp
    obtain ⟨k, c, _, _, rfl⟩ := mem_entL.1 hp
    exact trivial

theorem has_datF {N : Nat} {f : Nat → Option UInt8} {l : Lit} : Maps.has (datF N f) l = true ↔ ∃ (k : Nat) (c : UInt8), k < N ∧ f k = some c ∧ l = Lit.int .i64 (k : Int) := by
  unfold datF
  rw [Maps.has_eq, List.any_eq_true]
  constructor
  · rintro ⟨p, hp, hs⟩
    obtain ⟨k, c, hk, hf, rfl⟩ := mem_entL.1 hp
    exact ⟨k, c, hk, hf, (WideAt.sameKey_eq hs).symm⟩
  · rintro ⟨k, c, hk, hf, rfl⟩
    exact ⟨_, mem_entL.2 ⟨k, c, hk, hf, rfl⟩, WideAt.sameKey_self trivial⟩

theorem has_datF_at {N : Nat} {f : Nat → Option UInt8} {k : Nat} (hN : ∀ i, N ≤ i → f i = none) : Maps.has (datF N f) (Lit.int .i64 (k : Int)) = (f k).isSome := by
  rw [Bool.eq_iff_iff, has_datF]
  constructor
  · rintro ⟨i, c, _, hf, he⟩
    have : i = k := by simp only [Lit.int.injEq, true_and] at he; omega
    subst this; rw [hf]; rfl
  · intro h
    obtain ⟨c, hc⟩ := Option.isSome_iff_exists.1 h
    exact ⟨k, c, Nat.lt_of_not_le (fun hh => by rw [hN k hh] at hc; cases hc), hc, rfl⟩

theorem at_datF {N : Nat} {f : Nat → Option UInt8} {k : Nat} {c : UInt8} (hk : k < N) (hf : f k = some c) (z : DataW Unit) : (datF N f).atKey (Lit.int .i64 (k : Int)) z = .lit (.int .u8 (c.toNat : Int)) := by
  unfold datF DataW.atKey
  have hm : (Lit.int .i64 (k : Int), DataW.lit (H := Unit) (Lit.int .u8 (c.toNat : Int))) ∈ entL N f := mem_entL.2 ⟨k, c, hk, hf, rfl⟩
  cases hfi : (entL N f).find? (fun p => p.1.sameKey (Lit.int .i64 (k : Int))) with
  | none =>
    have := List.find?_eq_none.1 hfi _ hm
    exact absurd (WideAt.sameKey_self (a := Lit.int .i64 (k : Int)) trivial) this
  | some p =>
    have h1 := List.mem_of_find?_eq_some hfi
    have h2 := List.find?_some hfi
    obtain ⟨k', c', _, hf', rfl⟩ := mem_entL.1 h1
    have h3 := WideAt.sameKey_eq h2
    have : k' = k := by simp only [Lit.int.injEq, true_and] at h3; omega
    subst this
    rw [hf] at hf'
    cases hf'
    simp only [hfi]

theorem at_datF_none {N : Nat} {f : Nat → Option UInt8} {k : Nat} (hf : f k = none) (z : DataW Unit) : (datF N f).atKey (Lit.int .i64 (k : Int)) z = z := by
  refine Maps.atKey_of_not_has ?_ z
  cases hh : Maps.has (datF N f) (Lit.int .i64 (k : Int)) with
  | false => rfl
  | true =>
    obtain ⟨i, c, _, hf', he⟩ := has_datF.1 hh
    have : i = k := by simp only [Lit.int.injEq, true_and] at he; omega
    subst this; rw [hf] at hf'; cases hf'

theorem size_datF (N : Nat) (f : Nat → Option UInt8) : Maps.size (datF N f) = (keysF N f).length := by
  unfold datF Maps.size entL keysF
  simp only
  induction N with
  | zero => rfl
  | succ n ih =>
    rw [List.range_succ, List.filterMap_append, List.filter_append, List.length_append, List.length_append, ih]
    congr 1
    cases hf : f n with
    | none => simp [ent, hf]
    | some c => simp [ent, hf]

theorem keysF_le (N : Nat) (f : Nat → Option UInt8) : (keysF N f).length ≤ N := by
  have := List.length_filter_le (fun k => (f k).isSome) (List.range N)
  simpa [keysF] using this

/-- a key of datF is one of its places -/
theorem lit_key {N : Nat} {f : Nat → Option UInt8} {l : Lit} (h : Maps.has (datF N f) l = true) : ∃ k : Nat, k < N ∧ l = Lit.int .i64 (k : Int) := by
  obtain ⟨k, c, hk, _, rfl⟩ := has_datF.1 h
  exact ⟨k, hk, rfl⟩

theorem put_datF {N : Nat} {f : Nat → Option UInt8} {k : Nat} {c : UInt8} (hk : k < N) (hc : Canon ((datF N f).put (Lit.int .i64 (k : Int)) (.lit (.int .u8 (c.toNat : Int))))) :
    (datF N f).put (Lit.int .i64 (k : Int)) (.lit (.int .u8 (c.toNat : Int))) = datF N (upd f k (some c)) := by
  have hm : IsMap (datF N f) := ⟨_, rfl⟩
  refine Maps.ext hc (canon_datF _ _) ?_ ?_
  · intro l
    by_cases hl : l = Lit.int .i64 (k : Int)
    · subst hl
      rw [Maps.has_put_same hm (show WideAt.IsKeyLit (Lit.int .i64 (k : Int)) from trivial)]
      exact (has_datF.2 ⟨k, c, hk, upd_same _ _ _, rfl⟩).symm
    · rw [Maps.has_put_other hl, Bool.eq_iff_iff, has_datF, has_datF]
      constructor
      · rintro ⟨i, c', hi, hf, rfl⟩
        have hne : i ≠ k := fun e => hl (by rw [e])
        exact ⟨i, c', hi, by rw [upd_ne _ _ hne]; exact hf, rfl⟩
      · rintro ⟨i, c', hi, hf, rfl⟩
        have hne : i ≠ k := fun e => hl (by rw [e])
        exact ⟨i, c', hi, by rw [upd_ne _ _ hne] at hf; exact hf, rfl⟩
  · intro l z hh
    by_cases hl : l = Lit.int .i64 (k : Int)
    · subst hl
      rw [Maps.atKey_put_same hm (show WideAt.IsKeyLit (Lit.int .i64 (k : Int)) from trivial), at_datF hk (upd_same _ _ _)]
    · rw [Maps.has_put_other hl] at hh
      obtain ⟨i, c', hi, hf, rfl⟩ := has_datF.1 hh
      have hne : i ≠ k := fun e => hl (by rw [e])
      rw [Maps.atKey_put_other hl, at_datF hi hf, at_datF hi (by rw [upd_ne _ _ hne]; exact hf)]

theorem del_datF {N : Nat} {f : Nat → Option UInt8} {k : Nat} (hc : Canon ((datF N f).del (Lit.int .i64 (k : Int)))) :
    (datF N f).del (Lit.int .i64 (k : Int)) = datF N (upd f k none) := by
  refine Maps.ext hc (canon_datF _ _) ?_ ?_
  · intro l
    by_cases hl : l = Lit.int .i64 (k : Int)
    · subst hl
      rw [Maps.has_del_same]
      cases hh : Maps.has (datF N (upd f k none)) (Lit.int .i64 (k : Int)) with
      | false => rfl
      | true =>
        obtain ⟨i, c, _, hf, he⟩ := has_datF.1 hh
        have : i = k := by simp only [Lit.int.injEq, true_and] at he; omega
        subst this; rw [upd_same] at hf; cases hf
    · rw [Maps.has_del_other hl, Bool.eq_iff_iff, has_datF, has_datF]
      constructor
      · rintro ⟨i, c', hi, hf, rfl⟩
        have hne : i ≠ k := fun e => hl (by rw [e])
        exact ⟨i, c', hi, by rw [upd_ne _ _ hne]; exact hf, rfl⟩
      · rintro ⟨i, c', hi, hf, rfl⟩
        have hne : i ≠ k := fun e => hl (by rw [e])
        exact ⟨i, c', hi, by rw [upd_ne _ _ hne] at hf; exact hf, rfl⟩
  · intro l z hh
    by_cases hl : l = Lit.int .i64 (k : Int)
    · subst hl
      rw [Maps.has_del_same] at hh; cases hh
    · rw [Maps.has_del_other hl] at hh
      obtain ⟨i, c', hi, hf, rfl⟩ := has_datF.1 hh
      have hne : i ≠ k := fun e => hl (by rw [e])
      rw [Maps.atKey_del_other hl, at_datF hi hf, at_datF hi (by rw [upd_ne _ _ hne]; exact hf)]

/-- Block b of w is a map that reads as f, which is nowhere at or behind N. -/
structure MapAt (P : Program) (k e : TypeId) (w : World) (b N : Nat) (f : Nat → Option UInt8) : Prop where
  own : w.ownsMap P k (plainElem P e) b N (datF N f)
  bound : ∀ i, N ≤ i → f i = none

section
variable {P : Program} {t k e : TypeId} {w : World} {b N : Nat} {f : Nat → Option UInt8}

theorem MapAt.lt (h : MapAt P k e w b N f) : b < w.heap.size := h.own.lt
theorem MapAt.of_block (h : MapAt P k e w b N f) {w' : World} (hb : w'.heap[b]? = w.heap[b]?) : MapAt P k e w' b N f :=
  ⟨let ⟨es, c, h1, h2, h3, h4⟩ := h.own; ⟨es, c, hb.trans h1, h2, h3, h4⟩, h.bound⟩
theorem tighten {D : DataW Unit} {n : Nat} (h : w.ownsMap P k (plainElem P e) b n D) (hs : Maps.size D ≤ N) : w.ownsMap P k (plainElem P e) b N D := by
  obtain ⟨es, c, h1, h2, h3, rfl⟩ := h
  refine ⟨es, c, h1, h2, ?_, rfl⟩
  simpa [Maps.size, length_sorted] using hs
theorem MapAt.tight (h : MapAt P k e w b N f) {M : Nat} (g : Nat → Option UInt8) (hM : datF M g = datF N f) (hb : ∀ i, M ≤ i → g i = none) : MapAt P k e w b M g :=
  ⟨by
    rw [hM]
    refine tighten h.own ?_
    rw [← hM, size_datF]
    exact keysF_le _ _, hb⟩
theorem wf_key {i : Nat} (h : i ≤ 9223372036854775807) : (Lit.int .i64 (i : Int)).wf = true := by
  simp only [Lit.wf, IntKind.min, IntKind.max, IntKind.bits, IntKind.signed, Bool.and_eq_true, decide_eq_true_eq]; simp; omega
theorem wf_u8 (c : UInt8) : (Lit.int .u8 (c.toNat : Int)).wf = true := by
  have := c.toNat_lt
  simp only [Lit.wf, IntKind.min, IntKind.max, IntKind.bits, IntKind.signed, Bool.and_eq_true]; simp; omega

theorem MapAt.look (h : MapAt P k e w b N f) (hk : P.underlying k = some (.int .i64)) (he : P.underlying e = some (.int .u8)) (ht : P.underlying t = some (.map k e))
    (hz : (zeroValue e).run P w = .ok (.int .u8 0) w) {i : Nat} (hi : i ≤ 9223372036854775807) :
    (Instr.lookup t (.map (some b)) (.int .i64 (i : Int)) true).run P w = .ok (.tuple #[.int .u8 (((f i).getD 0).toNat : Int), .bool (f i).isSome]) w := by
  have hw0 : (Lit.int .u8 0).wf = true := by decide
  obtain ⟨v, ps, hr, hv⟩ := h.own.look_ok (int_keyed hk) ht hz (plainElem_int he hw0) (keyOf_int_mk hk (wf_key hi))
  rw [has_datF_at h.bound] at hr
  rw [hr]
  cases hf : f i with
  | none =>
    rw [at_datF_none hf] at hv
    obtain ⟨a, rfl, h2, _⟩ := plainElem_int_inv he hv
    simp only [Prod.mk.injEq, DataW.lit.injEq, Lit.int.injEq, true_and] at h2
    rw [← h2.1]; rfl
  | some c =>
    rw [at_datF (Nat.lt_of_not_le fun hh => by rw [h.bound i hh] at hf; cases hf) hf] at hv
    obtain ⟨a, rfl, h2, _⟩ := plainElem_int_inv he hv
    simp only [Prod.mk.injEq, DataW.lit.injEq, Lit.int.injEq, true_and] at h2
    rw [← h2.1]; rfl

theorem MapAt.look1 (h : MapAt P k e w b N f) (hk : P.underlying k = some (.int .i64)) (he : P.underlying e = some (.int .u8)) (ht : P.underlying t = some (.map k e))
    (hz : (zeroValue e).run P w = .ok (.int .u8 0) w) {i : Nat} (hi : i ≤ 9223372036854775807) :
    (Instr.lookup t (.map (some b)) (.int .i64 (i : Int)) false).run P w = .ok (.int .u8 (((f i).getD 0).toNat : Int)) w := by
  obtain ⟨c, hr, hv, _⟩ := h.own.lookup_int (int_keyed hk) ht he hz (keyOf_int_mk hk (wf_key hi))
  rw [hr]
  cases hf : f i with
  | none =>
    rw [at_datF_none hf] at hv
    simp only [DataW.lit.injEq, Lit.int.injEq, true_and] at hv
    rw [← hv]; rfl
  | some c =>
    rw [at_datF (Nat.lt_of_not_le fun hh => by rw [h.bound i hh] at hf; cases hf) hf] at hv
    simp only [DataW.lit.injEq, Lit.int.injEq, true_and] at hv
    rw [← hv]; rfl

theorem MapAt.len (h : MapAt P k e w b N f) (ht : P.underlying t = some (.map k e)) (ty : TypeId) :
    (Builtin.len_ #[t] ty #[.map (some b)]).run P w = .ok (.int .i64 ((keysF N f).length : Int)) w := by
  rw [h.own.len ht ty, size_datF]

theorem MapAt.store (h : MapAt P k e w b N f) (hk : P.underlying k = some (.int .i64)) (he : P.underlying e = some (.int .u8)) (ht : P.underlying t = some (.map k e))
    (hN : N < maxLen) {i : Nat} (hi : i < N) (c : UInt8) :
    ∃ w', (Instr.mapUpdate t (.map (some b)) (.int .i64 (i : Int)) (.int .u8 (c.toNat : Int))).run P w = .ok () w' ∧ MapAt P k e w' b N (upd f i (some c)) ∧ w.mapTurned w' b := by
  have hi' : i ≤ 9223372036854775807 := by unfold maxLen at hN; omega
  obtain ⟨w', hr, ho, ht'⟩ := h.own.store (int_keyed hk) ht hN (keyOf_int_mk hk (wf_key hi')) (plainElem_int he (wf_u8 c))
  rw [put_datF hi (ho.canon (int_keyed hk))] at ho
  refine ⟨w', hr, ⟨tighten ho (by rw [size_datF]; exact keysF_le _ _), fun j hj => ?_⟩, ht'⟩
  rw [upd_ne _ _ (by omega)]; exact h.bound j hj

theorem MapAt.drop (h : MapAt P k e w b N f) (hk : P.underlying k = some (.int .i64)) (ht : P.underlying t = some (.map k e))
    {i : Nat} (hi : i ≤ 9223372036854775807) (ty : TypeId) :
    ∃ w', (Builtin.delete_ #[t, k] ty #[.map (some b), .int .i64 (i : Int)]).run P w = .ok (.tuple #[]) w' ∧ MapAt P k e w' b N (upd f i none) ∧ w.mapTurned w' b := by
  obtain ⟨w', hr, ho, ht'⟩ := h.own.drop (int_keyed hk) ht (keyOf_int_mk hk (wf_key hi)) ty
  rw [del_datF (ho.canon (int_keyed hk))] at ho
  refine ⟨w', hr, ⟨ho, fun j hj => ?_⟩, ht'⟩
  by_cases hji : j = i
  · subst hji; exact upd_same _ _ _
  · rw [upd_ne _ _ hji]; exact h.bound j hj
end
end Go.Proofs.Ytcjeipeeacnmmaa
