/- Plain laws: sixteen hexadecimal digits and their number. -/
import Derived.Test.YtcmpindjgfojaaaDoorHashP
import Derived.Test.YtcmpindjgfojaaaDoorOneP
namespace Go.Proofs.YtcmpindjgfojaaaDoor

def hdig (c : UInt8) : Nat := if c.toNat ≤ 57 then c.toNat - 48 else c.toNat - 87
def hexV (l : List UInt8) : Nat := l.foldl (fun n c => n * 16 + hdig c) 0
theorem hexSet_iff (c : UInt8) : hexSet.contains c = true ↔ ((48 ≤ c.toNat ∧ c.toNat ≤ 57) ∨ (97 ≤ c.toNat ∧ c.toNat ≤ 102)) := by
  have : ∀ n, n < 256 → (hexSet.contains (UInt8.ofNat n) = true ↔ ((48 ≤ n ∧ n ≤ 57) ∨ (97 ≤ n ∧ n ≤ 102))) := by decide +kernel
  have h := this c.toNat c.toNat_lt
  rwa [UInt8.ofNat_toNat] at h
theorem hdig_hexc (c : UInt8) (h : hexSet.contains c = true) : hdig c < 16 ∧ hexc (hdig c) = c := by
  have : ∀ n, n < 256 → hexSet.contains (UInt8.ofNat n) = true → hdig (UInt8.ofNat n) < 16 ∧ hexc (hdig (UInt8.ofNat n)) = UInt8.ofNat n := by decide +kernel
  have h' := this c.toNat c.toNat_lt
  rw [UInt8.ofNat_toNat] at h'
  exact h' h
theorem hexc_hdig : ∀ n, n < 16 → hdig (hexc n) = n := by decide
theorem hexV_snoc (l : List UInt8) (c : UInt8) : hexV (l ++ [c]) = hexV l * 16 + hdig c := by simp [hexV]
theorem hexV_take {l : List UInt8} {k : Nat} {c : UInt8} (h : l[k]? = some c) : hexV (l.take (k + 1)) = hexV (l.take k) * 16 + hdig c := by
  obtain ⟨hk, rfl⟩ := List.getElem?_eq_some_iff.1 h
  rw [List.take_succ_eq_append_getElem hk, hexV_snoc]
theorem inSet_snoc' (cs l : List UInt8) (c : UInt8) : inSet cs (l ++ [c]) = (inSet cs l && cs.contains c) := by simp [inSet]
theorem hexV_lt : ∀ (k : Nat) (l : List UInt8), l.length = k → inSet hexSet l = true → hexV l < 16 ^ k
  | 0, l, hl, _ => by
    obtain rfl := List.eq_nil_of_length_eq_zero hl
    decide
  | k + 1, l, hl, hi => by
    obtain ⟨r, c, rfl⟩ : ∃ r c, l = r ++ [c] := ⟨l.dropLast, l.getLast (by intro e; simp [e] at hl), (List.dropLast_concat_getLast _).symm⟩
    rw [inSet_snoc', Bool.and_eq_true] at hi
    have := hexV_lt k r (by simpa using hl) hi.1
    have hd := (hdig_hexc c hi.2).1
    rw [hexV_snoc, Nat.pow_succ]
    omega
theorem hexK_hexV : ∀ (k : Nat) (l : List UInt8), l.length = k → inSet hexSet l = true → hexK k (hexV l) = l
  | 0, l, hl, _ => by
    obtain rfl := List.eq_nil_of_length_eq_zero hl
    rfl
  | k + 1, l, hl, hi => by
    obtain ⟨r, c, rfl⟩ : ∃ r c, l = r ++ [c] := ⟨l.dropLast, l.getLast (by intro e; simp [e] at hl), (List.dropLast_concat_getLast _).symm⟩
    rw [inSet_snoc', Bool.and_eq_true] at hi
    obtain ⟨h1, h2⟩ := hdig_hexc c hi.2
    rw [hexV_snoc, hexK]
    have e1 : (hexV r * 16 + hdig c) / 16 = hexV r := by omega
    have e2 : (hexV r * 16 + hdig c) % 16 = hdig c := by omega
    rw [e1, e2, h2, hexK_hexV k r (by simpa using hl) hi.1]
theorem hexV_hexK : ∀ (k n : Nat), n < 16 ^ k → hexV (hexK k n) = n
  | 0, n, h => by
    have : n = 0 := by simpa using h
    subst this; rfl
  | k + 1, n, h => by
    rw [hexK, hexV_snoc, hexV_hexK k (n / 16) (by rw [Nat.pow_succ] at h; omega), hexc_hdig _ (Nat.mod_lt _ (by decide))]
    omega
theorem hex16_K {u : Nat} (h : u < 18446744073709551616) : hex16 u = hexK 16 u := by
  have := hexK_eq 15 u (Nat.lt_of_lt_of_le h (by decide))
  unfold hex16
  rw [this]
/-- A hash in digits, and its number. -/
theorem hex16_iff {u : Nat} {l : List UInt8} (h : u < 18446744073709551616) (hl : hashB l = true) : hex16 u = l ↔ u = hexV l := by
  unfold hashB at hl
  rw [Bool.and_eq_true, decide_eq_true_eq] at hl
  rw [hex16_K h]
  constructor
  · intro e
    rw [← e, hexV_hexK 16 u (Nat.lt_of_lt_of_le h (by decide))]
  · intro e
    rw [e]; exact hexK_hexV 16 l hl.1 hl.2
theorem hex16_inj {u v : Nat} (hu : u < 18446744073709551616) (hv : v < 18446744073709551616) (h : hex16 u = hex16 v) : u = v := by
  rw [hex16_K hu, hex16_K hv] at h
  have := congrArg hexV h
  rwa [hexV_hexK 16 u (Nat.lt_of_lt_of_le hu (by decide)), hexV_hexK 16 v (Nat.lt_of_lt_of_le hv (by decide))] at this
theorem hexV_bd {l : List UInt8} (hl : hashB l = true) : hexV l < 18446744073709551616 := by
  unfold hashB at hl
  rw [Bool.and_eq_true, decide_eq_true_eq] at hl
  exact Nat.lt_of_lt_of_le (hexV_lt 16 l hl.1 hl.2) (by decide)
end Go.Proofs.YtcmpindjgfojaaaDoor
