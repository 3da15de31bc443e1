/-
  What a call may have turned (Upd), and bytes in memory (Bytes).
-/
import Derived.Maps.OwnSet
import Derived.Deep.Draws
import Derived.OwnWalk
import Derived.WalkKit
import Derived.Lib.Hide
import Derived.Laws.CopyOwn
import Derived.Deep.OwnRows
namespace Go.Proofs.Ytcjeipeeacnmmaa
open Go.RowKit Go.Deep

/-- w' is w but for the blocks of S, and for what is new. -/
structure Upd (S : List Nat) (w w' : World) : Prop where
  os : w'.os = w.os
  tape : w'.tape = w.tape
  output : w'.output = w.output
  size : w.heap.size ≤ w'.heap.size
  block : ∀ k, k < w.heap.size → k ∉ S → w'.heap[k]? = w.heap[k]?

theorem Upd.refl (S : List Nat) (w : World) : Upd S w w := ⟨rfl, rfl, rfl, Nat.le_refl _, fun _ _ _ => rfl⟩
theorem Upd.mono {S T : List Nat} {w w' : World} (h : Upd S w w') (hs : ∀ k ∈ S, k < w.heap.size → k ∈ T) : Upd T w w' :=
  ⟨h.os, h.tape, h.output, h.size, fun k hk hn => h.block k hk fun hm => hn (hs k hm hk)⟩
theorem Upd.nil {w w' : World} (h : Upd [] w w') (S : List Nat) : Upd S w w' := h.mono fun _ hk _ => nomatch hk
theorem Upd.trans {S : List Nat} {a b c : World} (h : Upd S a b) {T : List Nat} (k : Upd T b c) (hT : ∀ i ∈ T, i < a.heap.size → i ∈ S) : Upd S a c :=
  ⟨k.os.trans h.os, k.tape.trans h.tape, k.output.trans h.output, Nat.le_trans h.size k.size, fun i hi hn =>
    (k.block i (Nat.lt_of_lt_of_le hi h.size) fun hm => hn (hT i hm hi)).trans (h.block i hi hn)⟩
theorem Upd.trans' {S : List Nat} {a b c : World} (h : Upd S a b) (k : Upd S b c) : Upd S a c := h.trans k fun _ h _ => h
theorem Upd.of_below {w w' : World} (h : Below w.heap.size w w') (S : List Nat) : Upd S w w' := ⟨h.os, h.tape, h.output, h.size, fun k hk _ => h.block k hk⟩
theorem Upd.below {w w' : World} (h : Upd [] w w') : Below w.heap.size w w' := ⟨h.os, h.tape, h.output, h.size, fun k hk => h.block k hk (by simp)⟩
theorem Upd.of_grown {w w' : World} {r : Nat} (h : w.grownBy w' (some r)) : Upd [r] w w' :=
  ⟨h.os, h.tape, h.output, h.size, fun k hk hn => h.block k hk fun e => hn (by injection e with e; simp [e])⟩
theorem Upd.of_grown_none {w w' : World} (h : w.grownBy w' none) : Upd [] w w' :=
  ⟨h.os, h.tape, h.output, h.size, fun k hk _ => h.block k hk (by simp)⟩
theorem Upd.grow {S : List Nat} {a w w' : World} {row : Option Nat} (h : Upd S a w) (hg : w.grownBy w' row) (hr : ∀ g, row = some g → g ∈ S ∨ a.heap.size ≤ g) : Upd S a w' :=
  ⟨hg.os.trans h.os, hg.tape.trans h.tape, hg.output.trans h.output, Nat.le_trans h.size hg.size, fun k hk hn =>
    (hg.block k (Nat.lt_of_lt_of_le hk h.size) fun e => by
      rcases hr k e.symm with h1 | h1
      · exact hn h1
      · omega).trans (h.block k hk hn)⟩
theorem Upd.alloc {S : List Nat} {a w : World} (h : Upd S a w) (o : Obj) : Upd S a (w.alloc o) :=
  ⟨h.os, h.tape, h.output, Nat.le_trans h.size (by simp), fun k hk hn => (Below.heap_alloc w o k (Nat.lt_of_lt_of_le hk h.size)).trans (h.block k hk hn)⟩
theorem Upd.drew {S : List Nat} {a w : World} (h : Upd S a w) : Upd S a w.drew := ⟨h.os, h.tape, h.output, h.size, h.block⟩
theorem Upd.drewN {S : List Nat} {a w : World} (h : Upd S a w) (n : Nat) : Upd S a (w.drewN n) := ⟨h.os, h.tape, h.output, h.size, h.block⟩
theorem Upd.setCell {S : List Nat} {a w : World} (h : Upd S a w) {p : Addr} (hp : p.block ∈ S ∨ a.heap.size ≤ p.block) (u : Value) : Upd S a (w.setCell p u) :=
  ⟨h.os, h.tape, h.output, by simpa [World.setCell] using h.size, fun k hk hn => (Below.heap_setCell w p u k (by
    rintro rfl
    rcases hp with hp | hp
    · exact hn hp
    · omega)).trans (h.block k hk hn)⟩
theorem Upd.cell {S : List Nat} {w w' : World} (h : Upd S w w') {p : Addr} (hp : p.block < w.heap.size) (hn : p.block ∉ S) : w'.cell? p = w.cell? p := World.cell?_of_block (h.block _ hp hn)
theorem Upd.frozen {S : List Nat} {w w' : World} (h : Upd S w w') {p : Addr} (hp : p.block < w.heap.size) (hn : p.block ∉ S) : w'.frozen? p = w.frozen? p := World.frozen?_of_block (h.block _ hp hn)
theorem lt_of_cell {w : World} {p : Addr} {v : Value} (h : w.cell? p = some v) : p.block < w.heap.size := by
  unfold World.cell? at h
  cases hb : w.heap[p.block]? with
  | none => rw [hb] at h; cases h
  | some o => exact (Array.getElem?_eq_some_iff.1 hb).1

/-- the cell of a byte -/
def byteV (c : UInt8) : Value := .int .u8 (c.toNat : Int)

/-- v is a slice of bytes that holds just l. -/
def Bytes (w : World) (v : Value) (l : List UInt8) : Prop :=
  ∃ (a : Option Addr) (cap : Nat), v = .slice a l.length cap ∧ l.length ≤ cap ∧ (a = none → cap = 0) ∧ ∀ p, a = some p → ∀ i c, l[i]? = some c → w.cell? (p.add i) = some (.int .u8 (c.toNat : Int))

theorem Bytes.nil (w : World) : Bytes w (.slice none 0 0) [] := ⟨none, 0, rfl, Nat.le_refl _, fun _ => rfl, fun p h => by cases h⟩
theorem Addr.add_block (a : Addr) (n : Nat) : (a.add n).block = a.block := by unfold Addr.add; split <;> rfl
theorem Addr.add_add (a : Addr) (m n : Nat) : (a.add m).add n = a.add (m + n) := by
  unfold Addr.add
  by_cases hm : m = 0
  · subst hm; simp
  · by_cases hn : n = 0
    · subst hn; simp [hm]
    · simp [hm, hn, Nat.add_assoc]
/-- The blocks that bytes lie in stay: so do the bytes. -/
theorem Bytes.upd {S : List Nat} {w w' : World} {v : Value} {l : List UInt8} (h : Bytes w v l) (hu : Upd S w w') (hS : ∀ p n c, v = .slice (some p) n c → p.block ∉ S) : Bytes w' v l := by
  obtain ⟨a, cap, rfl, h1, h2, h3⟩ := h
  refine ⟨a, cap, rfl, h1, h2, fun p hp i c hc => ?_⟩
  subst hp
  have hcell := h3 p rfl i c hc
  have hb := lt_of_cell hcell
  rw [Addr.add_block] at hb
  exact (hu.cell (p := p.add i) (by rw [Addr.add_block]; exact hb) (by rw [Addr.add_block]; exact hS p _ _ rfl)).trans hcell
/-- v, if it is a slice that leads anywhere, leads to a block from N on -/
def NewFrom (N : Nat) (v : Value) : Prop := ∀ p n c, v = .slice (some p) n c → N ≤ p.block
theorem Bytes.upd' {S : List Nat} {w w' : World} {v : Value} {l : List UInt8} (h : Bytes w v l) (hu : Upd S w w') {N : Nat} (hN : NewFrom N v) (hS : ∀ b, N ≤ b → b < w.heap.size → b ∉ S) : Bytes w' v l := by
  obtain ⟨a, cap, rfl, h1, h2, h3⟩ := h
  refine ⟨a, cap, rfl, h1, h2, fun p hp i c hc => ?_⟩
  subst hp
  have hcell := h3 p rfl i c hc
  have hb := lt_of_cell hcell
  rw [Addr.add_block] at hb
  exact (hu.cell (p := p.add i) (by rw [Addr.add_block]; exact hb) (by rw [Addr.add_block]; exact hS _ (hN p _ _ rfl) hb)).trans hcell
theorem Bytes.below {w w' : World} {v : Value} {l : List UInt8} (h : Bytes w v l) (hu : Upd [] w w') : Bytes w' v l := h.upd hu fun _ _ _ _ => by simp
theorem Bytes.drewN {w : World} {v : Value} {l : List UInt8} (h : Bytes w v l) (n : Nat) : Bytes (w.drewN n) v l := h
/-- A part of it: 'x[lo:hi:mx]'. -/
theorem Bytes.part {w : World} {a : Option Addr} {n cap : Nat} {l : List UInt8} (h : Bytes w (.slice a n cap) l) {lo hi mx : Nat} (h1 : lo ≤ hi) (h2 : hi ≤ l.length) (h3 : hi ≤ mx) (h4 : mx ≤ cap) :
    Bytes w (.slice (if mx = lo then a else a.map (·.add lo)) (hi - lo) (mx - lo)) ((l.drop lo).take (hi - lo)) := by
  obtain ⟨a', cap', he, hc1, hc2, hc3⟩ := h
  injection he with e1 e2 e3
  subst e1; subst e2; subst e3
  have hlen : ((l.drop lo).take (hi - lo)).length = hi - lo := by simp; omega
  refine ⟨_, _, by rw [hlen], by rw [hlen]; omega, ?_, ?_⟩
  · intro hnone
    by_cases hm : mx = lo
    · omega
    · rw [if_neg hm] at hnone
      cases ha : a with
      | none => have := hc2 ha; omega
      | some p => rw [ha] at hnone; cases hnone
  · intro p hp i c hi'
    have hi2 : l[lo + i]? = some c ∧ i < hi - lo := by
      rw [List.getElem?_take] at hi'
      by_cases hh : i < hi - lo
      · rw [if_pos hh, List.getElem?_drop] at hi'; exact ⟨hi', hh⟩
      · rw [if_neg hh] at hi'; cases hi'
    have hm : mx ≠ lo := by omega
    rw [if_neg hm] at hp
    cases ha : a with
    | none => rw [ha] at hp; cases hp
    | some q =>
      rw [ha] at hp
      simp only [Option.map_some, Option.some.injEq] at hp
      subst hp
      rw [Addr.add_add]
      exact hc3 q ha (lo + i) c hi2.1
theorem Bytes.head {w : World} {a : Option Addr} {n cap : Nat} {l : List UInt8} (h : Bytes w (.slice a n cap) l) {hi : Nat} (h0 : 0 < hi) (h2 : hi ≤ l.length) : Bytes w (.slice a hi hi) (l.take hi) := by
  have hn : n = l.length ∧ l.length ≤ cap := by
    obtain ⟨a', cap', he, hc1, _⟩ := h
    injection he with e1 e2 e3
    exact ⟨e2, e3 ▸ hc1⟩
  have := h.part (lo := 0) (hi := hi) (mx := hi) (Nat.zero_le _) h2 (Nat.le_refl _) (by omega)
  simp only [Nat.sub_zero, List.drop_zero] at this
  rw [if_neg (by omega)] at this
  have e : a.map (fun x => Addr.add x 0) = a := by
    cases a with
    | none => rfl
    | some p => simp [Addr.add]
  rwa [e] at this
theorem Bytes.mid {w : World} {a : Option Addr} {n cap : Nat} {l : List UInt8} (h : Bytes w (.slice a n cap) l) {lo hi : Nat} (h0 : lo < hi) (h2 : hi ≤ l.length) :
    Bytes w (.slice (a.map (fun x => Addr.add x lo)) (hi - lo) (hi - lo)) ((l.drop lo).take (hi - lo)) := by
  have hn : n = l.length ∧ l.length ≤ cap := by
    obtain ⟨a', cap', he, hc1, _⟩ := h
    injection he with e1 e2 e3
    exact ⟨e2, e3 ▸ hc1⟩
  have := h.part (lo := lo) (hi := hi) (mx := hi) (by omega) h2 (Nat.le_refl _) (by omega)
  rwa [if_neg (by omega)] at this
/-- a new block of bytes -/
theorem Bytes.fresh (w : World) (l : List UInt8) (t : TypeId) : Bytes (w.alloc (.cells (l.map byteV).toArray t)) (.slice (some ⟨w.heap.size, 0, none⟩) l.length l.length) l := by
  refine ⟨_, _, rfl, Nat.le_refl _, nofun, fun p hp i c hc => ?_⟩
  cases hp
  have hlt : i < l.length := (List.getElem?_eq_some_iff.1 hc).1
  have hadd : (⟨w.heap.size, 0, none⟩ : Addr).add i = ⟨w.heap.size, i, none⟩ := by
    unfold Addr.add
    by_cases h0 : i = 0
    · subst h0; simp
    · simp [h0]
  rw [hadd]
  simp only [World.cell?, World.alloc]
  rw [show ((w.heap.push (Obj.cells (List.map byteV l).toArray t))[w.heap.size]?) = some (Obj.cells (List.map byteV l).toArray t) from by simp]
  simp [hc, byteV]

theorem modify_push {α : Type} (a : Array α) (x : α) (f : α → α) : (a.push x).modify a.size f = a.push (f x) := by
  apply Array.ext
  · simp
  · intro i h1 h2
    simp only [Array.getElem_modify, Array.getElem_push]
    by_cases h : i = a.size
    · subst h; simp
    · simp only [Array.size_push] at h2
      have : i < a.size := by omega
      have h' : ¬ a.size = i := fun e => h e.symm
      simp [this, h']
theorem run_make_int {P : Program} (t e : TypeId) (z : Value) (bytes : Nat) (ht : P.underlying t = some (.slice e)) (hinfo : (P.info? e).map (fun i => (i.zero, i.size, i.bytes)) = some (some z, 1, bytes)) (hz1 : z.cells = #[z])
    (kl kc : IntKind) (x : Int) (h0 : 0 ≤ x) (hbytes : bytes * x.toNat ≤ 281474976710656) (h63 : x ≤ 9223372036854775807) (w : World) :
    (Instr.makeSlice t (.int kl x) (.int kc x)).run P w = .ok (.slice (some ⟨w.heap.size, 0, none⟩) x.toNat x.toNat) (w.alloc (.cells (madeCells #[z] x.toNat) e)) := by
  obtain ⟨n, rfl⟩ := Int.eq_ofNat_of_zero_le h0
  exact run_make_row' t e z bytes ht hinfo hz1 kl kc n hbytes (by omega) w
/-- 'copy' of just so many bytes into the block that was made last. -/
theorem run_copy_fresh {P : Program} (w : World) (dT sT ty e : TypeId) (k : Nat) (src : Value) (l : List UInt8) (hl : l.length = k) (hu : P.underlying dT = some (.slice e)) (hs : (P.info? e).map (·.size) = some 1)
    (hb : Bytes w src l) :
    (Builtin.copy_ #[dT, sT] ty #[.slice (some ⟨w.heap.size, 0, none⟩) k k, src]).run P (w.alloc (.cells (madeCells #[.int .u8 0] k) e)) = .ok (goInt k) (w.alloc (.cells (l.map byteV).toArray e)) := by
  subst hl
  obtain ⟨a, cap, rfl, h1, h2, h3⟩ := hb
  have hblk : (w.alloc (.cells (madeCells #[.int .u8 0] l.length) e)).heap[w.heap.size]? = some (.cells (madeCells #[.int .u8 0] l.length) e (0, 0)) := by
    simp only [World.alloc]; simp
  have hcells : ∀ (j : Nat) (v : Value), (l.map byteV)[j]? = some v → ∃ c, l[j]? = some c ∧ v = byteV c := by
    intro j v hj
    rw [List.getElem?_map] at hj
    cases hlj : l[j]? with
    | none => rw [hlj] at hj; cases hj
    | some c => rw [hlj] at hj; exact ⟨c, rfl, by simpa using hj.symm⟩
  cases a with
  | none =>
    have hc0 := h2 rfl
    have hl0 : l = [] := List.eq_nil_of_length_eq_zero (by omega)
    subst hl0
    subst hc0
    have := run_copy_nil (P := P) (w.alloc (.cells (madeCells #[.int .u8 0] 0) e)) dT sT ty e ⟨w.heap.size, 0, none⟩ 0 0 hu (by
      cases hq : P.info? e with
      | none => simp [hq] at hs
      | some i => rfl)
    have e0 : madeCells #[Value.int .u8 0] 0 = #[] := by simp [madeCells]
    simp only [List.length_nil]
    rw [e0] at this ⊢
    exact this
  | some p =>
    have hsrc : ∀ (j : Nat) (v : Value), (l.map byteV)[j]? = some v → (w.alloc (.cells (madeCells #[.int .u8 0] l.length) e)).cell? (p.add j) = some v := by
      intro j v hj
      obtain ⟨c, hc, rfl⟩ := hcells j v hj
      have hcell := h3 p rfl j c hc
      have hlt := lt_of_cell hcell
      exact (World.cell?_of_block (Below.heap_alloc _ _ _ hlt)).trans hcell
    have hrow := run_copy_row (P := P) (w.alloc (.cells (madeCells #[.int .u8 0] l.length) e)) dT sT ty e w.heap.size 0 l.length l.length p l.length cap _ e (l.map byteV) hu hs hblk (by simp) hsrc (by simp [size_madeCells]) (by
      intro v hv
      obtain ⟨c, _, rfl⟩ := List.mem_map.1 hv
      rfl)
    rw [hrow]
    have hlen : (madeCells #[Value.int .u8 0] l.length).toList.length = l.length := by simp [madeCells]
    simp only [List.length_map, List.take_zero, List.nil_append, Nat.zero_add]
    rw [List.drop_of_length_le (by omega), List.append_nil]
    congr 1
    show ({ w with heap := (w.heap.push (Obj.cells (madeCells #[.int .u8 0] l.length) e (0, 0))).modify w.heap.size _ } : World) = { w with heap := w.heap.push _ }
    rw [modify_push]
end Go.Proofs.Ytcjeipeeacnmmaa
