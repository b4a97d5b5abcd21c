/- Words and small lemmas that the walks of this claim share: slices that are read, bytes of strings, ends of walks. -/
import Derived.Test.YtcmpindjgfojaaaDoorProg
import Derived.WalkKit
import Derived.WalkSpells
import Derived.WalkLawsBesides
import Derived.Lib.ConvBytes
import Derived.Lib.Hide
import Derived.Test.YtcmpindjgfojaaaDoorShelf
import Derived.Shelf.Spec.TrailingZeros
namespace Go.Proofs.YtcmpindjgfojaaaDoor
open Go.RowKit

theorem ret_int {k : IntKind} {a b : Int} (h : a = b) : Ending.returned (.int k a) = .returned (.int k b) := by rw [h]
theorem ret_bool {a b : Bool} (h : a = b) : Ending.returned (.bool a) = .returned (.bool b) := by rw [h]
theorem ret_str {a b : List UInt8} (h : a = b) : Ending.returned (.string ⟨a.toArray⟩) = .returned (.string ⟨b.toArray⟩) := by rw [h]

/-- '[]byte(s)': a new row with the bytes. -/
theorem run_sb {P : Program} (w : World) (src dst e : TypeId) (s : ByteArray) {u : TypeDesc}
    (hs : P.underlying src = some u) (hd : P.underlying dst = some (.slice e)) (he : P.underlying e = some (.int .u8)) :
    ∃ cap w', (convert src dst (.string s)).run P w = .ok (.slice (some ⟨w.heap.size, 0, none⟩) s.size cap) w' ∧ Below w.heap.size w w' ∧ w'.heap.size = w.heap.size + 1 ∧
      (∀ j, j < s.size → w'.cell? ⟨w.heap.size, j, none⟩ = some (.int .u8 (s.data.toList.getD j 0).toNat)) ∧ s.size ≤ cap := by
  refine ⟨_, _, Lib.run_convert_string_bytes w src dst e s hs hd he, ?_, Lib.bytesWorld_size w e s, fun j hj => Lib.bytesWorld_cell w e s j hj, ?_⟩
  · refine ⟨rfl, rfl, rfl, ?_, fun k hk => Lib.bytesWorld_at_old w e s k hk⟩
    rw [Lib.bytesWorld_size]; omega
  · simp [grownCap, Question.cut]

theorem wrap_u8 (c : UInt8) : IntKind.u64.wrap (c.toNat : Int) = (c.toNat : Int) := by
  have := c.toNat_lt
  simp [IntKind.wrap, IntKind.signed, IntKind.bits]
  omega

/-- A slice value that reads in a world as a list; each element is one cell. -/
def Sl {α : Type} (enc : α → Value) (w : World) (v : Value) (xs : List α) : Prop :=
  ∃ a c, v = .slice a xs.length c ∧ xs.length ≤ c ∧ (0 < xs.length → ∃ b off, a = some ⟨b, off, none⟩ ∧ b < w.heap.size ∧ ∀ j x, xs[j]? = some x → w.cell? ⟨b, off + j, none⟩ = some (enc x))

theorem Sl.below {α : Type} {enc : α → Value} {w w' : World} {v : Value} {xs : List α} (h : Sl enc w v xs) (hb : Below w.heap.size w w') : Sl enc w' v xs := by
  obtain ⟨a, c, e, hc, hx⟩ := h
  refine ⟨a, c, e, hc, fun h0 => ?_⟩
  obtain ⟨b, off, e1, h1, h2⟩ := hx h0
  exact ⟨b, off, e1, Nat.lt_of_lt_of_le h1 hb.size, fun j x hj => (hb.cell (p := ⟨b, off + j, none⟩) h1).trans (h2 j x hj)⟩

theorem take_snoc {α : Type} {xs : List α} {k : Nat} {x : α} (h : xs[k]? = some x) : xs.take (k + 1) = xs.take k ++ [x] := by
  obtain ⟨hk, rfl⟩ := List.getElem?_eq_some_iff.1 h
  rw [List.take_succ_eq_append_getElem hk]

theorem get_some {α : Type} {xs : List α} {k : Nat} (h : k < xs.length) : ∃ x, xs[k]? = some x := ⟨xs[k], List.getElem?_eq_getElem h⟩

/-- What a call owns, read as a list. -/
theorem Sl.ofOwn {α : Type} {enc : α → Value} {w : World} {B e : Nat} {v : Value} {xs : List α} (h : w.ownsRow B e 1 v xs.length (xs.map enc)) : Sl enc w v xs := by
  obtain ⟨_, h⟩ := h
  rcases h with ⟨rfl, h0⟩ | ⟨g, cap, cur, rfl, hg, hh, hn, hm, hs, ht⟩
  · have : xs = [] := List.eq_nil_of_length_eq_zero h0
    subst this
    exact ⟨none, 0, rfl, Nat.le_refl _, fun h => by simp at h⟩
  · refine ⟨_, cap, rfl, hn, fun _ => ⟨g, 0, rfl, (Array.getElem?_eq_some_iff.1 hh).1, fun j x hj => ?_⟩⟩
    obtain ⟨hjl, hjx⟩ := List.getElem?_eq_some_iff.1 hj
    have : (cur.toList.take (xs.length * 1))[j]? = (xs.map enc)[j]? := by rw [ht]
    rw [List.getElem?_take_of_lt (by omega), List.getElem?_map, hj] at this
    simp only [World.cell?, hh]
    simpa using this

theorem Sl.nil {α : Type} {enc : α → Value} {w : World} : Sl enc w (.slice none 0 0) ([] : List α) := ⟨none, 0, rfl, Nat.le_refl _, fun h => by simp at h⟩
theorem Sl.cells {α : Type} {enc : α → Value} {w : World} {b off n c : Nat} {xs : List α} (h : Sl enc w (.slice (some ⟨b, off, none⟩) n c) xs) : n = xs.length ∧ ∀ j x, xs[j]? = some x → w.cell? ⟨b, off + j, none⟩ = some (enc x) := by
  obtain ⟨a, c', e, hc, hx⟩ := h
  simp only [Value.slice.injEq] at e
  obtain ⟨e1, e2, e3⟩ := e
  refine ⟨e2, fun j x hj => ?_⟩
  obtain ⟨b', off', e4, _, h2⟩ := hx (by have := (List.getElem?_eq_some_iff.1 hj).1; omega)
  rw [← e1] at e4
  simp only [Option.some.injEq, Addr.mk.injEq, and_true] at e4
  obtain ⟨rfl, rfl⟩ := e4
  exact h2 j x hj

/-- The package-level variables that this program's calls read. -/
def Glb (w : World) : Prop := ∀ w', Below 8 w w' → Lib.TabIs Tryd.prog w' "internal/strconv.uint64pow10" .u64 Lib.pow10Tab ∧ Lib.TabIs Tryd.prog w' "math/bits.deBruijn64tab" .u8 (List.map Int.ofNat Lib.deBruijn64tab)
theorem Glb.keep {w w' : World} (h : Glb w) (hb : Below 8 w w') : Glb w' := fun _ hb' => h _ (hb.trans hb')
theorem Glb.pow10 {w : World} (h : Glb w) : Lib.TabIs Tryd.prog w "internal/strconv.uint64pow10" .u64 Lib.pow10Tab := (h w (Below.refl _ _)).1
theorem Glb.deB {w : World} (h : Glb w) : Lib.TabIs Tryd.prog w "math/bits.deBruijn64tab" .u8 (List.map Int.ofNat Lib.deBruijn64tab) := (h w (Below.refl _ _)).2
/-- A world in which a call may begin: the variables are laid, and lie below what the call makes. -/
structure Ok (w : World) : Prop where
  glb : Glb w
  size : 8 ≤ w.heap.size
theorem Ok.below {w w' : World} (h : Ok w) (hb : Below w.heap.size w w') : Ok w' := ⟨h.glb.keep (hb.mono h.size), Nat.le_trans h.size hb.size⟩

end Go.Proofs.YtcmpindjgfojaaaDoor
