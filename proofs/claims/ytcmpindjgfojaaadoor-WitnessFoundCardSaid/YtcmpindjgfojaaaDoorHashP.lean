/- The plain law of the reference hash: eight limbs multiplied by hand are the hash of 64 bits; its digits. -/
import Derived.Test.YtcmpindjgfojaaaDoorWitB
import Derived.Test.YtcmpindjgfojaaaDoorLimb
import Derived.Laws.BitsAllLaws
namespace Go.Proofs.YtcmpindjgfojaaaDoor

theorem i64_xor_nat (a b : Nat) (ha : a < 256) (hb : b < 256) : bits .xor .i64 (a : Int) (b : Int) = ((a ^^^ b : Nat) : Int) := by
  have hx : a ^^^ b < 2 ^ 8 := Nat.xor_lt_two_pow (by omega) (by omega)
  show IntKind.i64.wrap ((BitVec.ofInt 64 (a : Int) ^^^ BitVec.ofInt 64 (b : Int)).toNat : Int) = _
  rw [BitVec.toNat_xor, ofInt_u64 a (by omega), ofInt_u64 b (by omega), IntKind.wrap_i64]
  omega
def primeL : List Nat := [179, 1, 0, 0, 0, 1, 0, 0]
def beginL : List Nat := [37, 35, 34, 132, 228, 156, 242, 203]
def mulAt (h : List Nat) (a b : Nat) (nx : List Nat) : List Nat := nx.set (a + b) (nx.getD (a + b) 0 + h.getD a 0 * primeL.getD b 0)
def mulIn (h : List Nat) (a : Nat) (nx : List Nat) : Nat → List Nat
  | 0 => nx
  | b + 1 => mulAt h a b (mulIn h a nx b)
def mulOut (h : List Nat) : Nat → List Nat
  | 0 => List.replicate 8 0
  | a + 1 => mulIn h a (mulOut h a) (8 - a)
def carryN (nx : List Nat) : Nat → Nat × List Nat
  | 0 => (0, nx)
  | a + 1 => (((carryN nx a).1 + (carryN nx a).2.getD a 0) / 256, (carryN nx a).2.set a (((carryN nx a).1 + (carryN nx a).2.getD a 0) % 256))
def xorL (h : List Nat) (c : Nat) : List Nat := h.set 0 (h.getD 0 0 ^^^ c)
def stepL (h : List Nat) (c : Nat) : List Nat := (carryN (mulOut (xorL h c) 8) 8).2
/-- Eight numbers up to m. -/
def LB (m : Nat) (l : List Nat) : Prop := l.length = 8 ∧ ∀ j, l.getD j 0 ≤ m
theorem LB.mono {m m' : Nat} {l : List Nat} (h : LB m l) (hm : m ≤ m') : LB m' l := ⟨h.1, fun j => Nat.le_trans (h.2 j) hm⟩
theorem LB.set {m x i : Nat} {l : List Nat} (h : LB m l) (hx : x ≤ m) : LB m (l.set i x) := by
  refine ⟨by simp [h.1], fun j => ?_⟩
  rw [List.getD_eq_getElem?_getD, List.getElem?_set]
  split
  · split
    · exact hx
    · exact Nat.zero_le _
  · rw [← List.getD_eq_getElem?_getD]; exact h.2 j
theorem primeL_bd (b : Nat) : primeL.getD b 0 ≤ 179 := by
  match b with
  | 0 | 1 | 2 | 3 | 4 | 5 | 6 | 7 => decide
  | n + 8 => simp [primeL]
theorem mulAt_bd {h nx : List Nat} {m a b : Nat} (hh : LB 255 h) (hn : LB m nx) : LB (m + 45645) (mulAt h a b nx) := by
  unfold mulAt
  refine (hn.mono (Nat.le_add_right _ _)).set ?_
  have h1 := hn.2 (a + b)
  have h2 : h.getD a 0 * primeL.getD b 0 ≤ 255 * 179 := Nat.mul_le_mul (hh.2 a) (primeL_bd b)
  omega
theorem mulIn_bd {h nx : List Nat} {m a : Nat} (hh : LB 255 h) (hn : LB m nx) : ∀ b, LB (m + 45645 * b) (mulIn h a nx b)
  | 0 => hn.mono (by omega)
  | b + 1 => (mulAt_bd hh (mulIn_bd hh hn b)).mono (by omega)
theorem mulOut_bd {h : List Nat} (hh : LB 255 h) : ∀ a, a ≤ 8 → LB (45645 * 8 * a) (mulOut h a)
  | 0, _ => ⟨rfl, fun j => by
      show (List.replicate 8 0).getD j 0 ≤ _
      match j with
      | 0 | 1 | 2 | 3 | 4 | 5 | 6 | 7 => decide
      | n + 8 => simp⟩
  | a + 1, ha => (mulIn_bd hh (mulOut_bd hh a (by omega)) (8 - a)).mono (by omega)
theorem carry_bd {nx : List Nat} (hn : LB 2921280 nx) : ∀ a, (carryN nx a).1 ≤ 2921280 ∧ LB 2921280 (carryN nx a).2
  | 0 => ⟨Nat.zero_le _, hn⟩
  | a + 1 => by
    obtain ⟨h1, h2⟩ := carry_bd hn a
    have h3 := h2.2 a
    refine ⟨?_, h2.set ?_⟩
    · show ((carryN nx a).1 + (carryN nx a).2.getD a 0) / 256 ≤ _
      omega
    · have := Nat.mod_lt ((carryN nx a).1 + (carryN nx a).2.getD a 0) (show 0 < 256 by decide)
      omega
/-- The number of eight limbs. -/
def valL (l : List Nat) : Nat := l.getD 0 0 + 256 * l.getD 1 0 + 65536 * l.getD 2 0 + 16777216 * l.getD 3 0 + 4294967296 * l.getD 4 0 + 1099511627776 * l.getD 5 0 + 281474976710656 * l.getD 6 0 + 72057594037927936 * l.getD 7 0
theorem eight {l : List Nat} (h : l.length = 8) : ∃ a0 a1 a2 a3 a4 a5 a6 a7, l = [a0, a1, a2, a3, a4, a5, a6, a7] := by
  match l, h with
  | [a0, a1, a2, a3, a4, a5, a6, a7], _ => exact ⟨_, _, _, _, _, _, _, _, rfl⟩
theorem mulOut_eq (h0 h1 h2 h3 h4 h5 h6 h7 : Nat) : mulOut [h0, h1, h2, h3, h4, h5, h6, h7] 8 =
    [179*h0, 179*h1+h0, 179*h2+h1, 179*h3+h2, 179*h4+h3, 179*h5+h4+h0, 179*h6+h5+h1, 179*h7+h6+h2] := by
  simp only [mulOut, mulIn, mulAt, primeL, List.replicate, List.getD_cons_zero, List.getD_cons_succ, List.set_cons_zero, List.set_cons_succ, Nat.reduceAdd, Nat.reduceSub, Nat.mul_zero, Nat.add_zero, Nat.zero_add, Nat.mul_one]
  simp only [List.cons.injEq, and_true]
  refine ⟨?_, ?_, ?_, ?_, ?_, ?_, ?_, ?_⟩ <;> omega
theorem step_val {h : List Nat} {c : Nat} (hl : h.length = 8) (hb : ∀ j, h.getD j 0 < 256) (hc : c < 256) :
    (stepL h c).length = 8 ∧ (∀ j, (stepL h c).getD j 0 < 256) ∧ valL (stepL h c) = ((valL h ^^^ c) * 1099511628211) % 18446744073709551616 := by
  obtain ⟨h0, h1, h2, h3, h4, h5, h6, h7, rfl⟩ := eight hl
  have b0 : h0 < 256 := hb 0
  have b1 : h1 < 256 := hb 1
  have b2 : h2 < 256 := hb 2
  have b3 : h3 < 256 := hb 3
  have b4 : h4 < 256 := hb 4
  have b5 : h5 < 256 := hb 5
  have b6 : h6 < 256 := hb 6
  have b7 : h7 < 256 := hb 7
  have x0 : h0 ^^^ c < 256 := Nat.xor_lt_two_pow (n := 8) b0 hc
  have hx : xorL [h0, h1, h2, h3, h4, h5, h6, h7] c = [h0 ^^^ c, h1, h2, h3, h4, h5, h6, h7] := rfl
  have hv : valL [h0, h1, h2, h3, h4, h5, h6, h7] ^^^ c = valL [h0 ^^^ c, h1, h2, h3, h4, h5, h6, h7] := by
    have := xor_low h0 (h1 + 256 * h2 + 65536 * h3 + 16777216 * h4 + 4294967296 * h5 + 1099511627776 * h6 + 281474976710656 * h7) c b0 hc
    have e1 : valL [h0, h1, h2, h3, h4, h5, h6, h7] = h0 + 256 * (h1 + 256 * h2 + 65536 * h3 + 16777216 * h4 + 4294967296 * h5 + 1099511627776 * h6 + 281474976710656 * h7) := by
      simp only [valL, List.getD_cons_zero, List.getD_cons_succ]; omega
    have e2 : valL [h0 ^^^ c, h1, h2, h3, h4, h5, h6, h7] = (h0 ^^^ c) + 256 * (h1 + 256 * h2 + 65536 * h3 + 16777216 * h4 + 4294967296 * h5 + 1099511627776 * h6 + 281474976710656 * h7) := by
      simp only [valL, List.getD_cons_zero, List.getD_cons_succ]; omega
    rw [e1, e2, this]
  rw [hv]
  unfold stepL
  rw [hx, mulOut_eq]
  generalize h0 ^^^ c = g at x0
  have key := limb_mul g h1 h2 h3 h4 h5 h6 h7 x0 b1 b2 b3 b4 b5 b6 b7 _ _ _ _ _ _ _ _ _ _ _ _ _ _ _ rfl rfl rfl rfl rfl rfl rfl rfl rfl rfl rfl rfl rfl rfl rfl
  generalize 179*g = n0, 179*h1+g = n1, 179*h2+h1 = n2, 179*h3+h2 = n3, 179*h4+h3 = n4, 179*h5+h4+g = n5, 179*h6+h5+h1 = n6, 179*h7+h6+h2 = n7 at key ⊢
  have hcarry : (carryN [n0, n1, n2, n3, n4, n5, n6, n7] 8).2 = [n0 % 256, (n0 / 256 + n1) % 256, ((n0 / 256 + n1) / 256 + n2) % 256, (((n0 / 256 + n1) / 256 + n2) / 256 + n3) % 256, ((((n0 / 256 + n1) / 256 + n2) / 256 + n3) / 256 + n4) % 256, (((((n0 / 256 + n1) / 256 + n2) / 256 + n3) / 256 + n4) / 256 + n5) % 256, ((((((n0 / 256 + n1) / 256 + n2) / 256 + n3) / 256 + n4) / 256 + n5) / 256 + n6) % 256, (((((((n0 / 256 + n1) / 256 + n2) / 256 + n3) / 256 + n4) / 256 + n5) / 256 + n6) / 256 + n7) % 256] := by
    simp only [carryN, List.getD_cons_zero, List.getD_cons_succ, List.set_cons_zero, List.set_cons_succ, Nat.zero_add]
  rw [hcarry]
  refine ⟨rfl, fun j => ?_, ?_⟩
  · match j with
    | 0 | 1 | 2 | 3 | 4 | 5 | 6 | 7 => exact Nat.mod_lt _ (by decide)
    | n + 8 => simp
  · simp only [valL, List.getD_cons_zero, List.getD_cons_succ]
    exact key
/-- The limbs of a text. -/
def hashLimbs (l : List UInt8) : List Nat := l.foldl (fun h c => stepL h c.toNat) beginL
theorem limbs_snoc {l : List UInt8} {k : Nat} {c : UInt8} (h : l[k]? = some c) : hashLimbs (l.take (k + 1)) = stepL (hashLimbs (l.take k)) c.toNat := by
  obtain ⟨hk, rfl⟩ := List.getElem?_eq_some_iff.1 h
  unfold hashLimbs
  rw [List.take_succ_eq_append_getElem hk, List.foldl_append]
  rfl
theorem val_lt {h : List Nat} (hb : ∀ j, h.getD j 0 < 256) : valL h < 18446744073709551616 := by
  have b0 := hb 0; have b1 := hb 1; have b2 := hb 2; have b3 := hb 3; have b4 := hb 4; have b5 := hb 5; have b6 := hb 6; have b7 := hb 7
  unfold valL
  generalize h.getD 0 0 = x0 at *
  generalize h.getD 1 0 = x1 at *
  generalize h.getD 2 0 = x2 at *
  generalize h.getD 3 0 = x3 at *
  generalize h.getD 4 0 = x4 at *
  generalize h.getD 5 0 = x5 at *
  generalize h.getD 6 0 = x6 at *
  generalize h.getD 7 0 = x7 at *
  clear hb
  omega
theorem limbs_gen (l : List UInt8) : ∀ (h : List Nat), h.length = 8 → (∀ j, h.getD j 0 < 256) →
    (l.foldl (fun h c => stepL h c.toNat) h).length = 8 ∧ (∀ j, (l.foldl (fun h c => stepL h c.toNat) h).getD j 0 < 256) ∧ fnvOn (valL h) l = (valL (l.foldl (fun h c => stepL h c.toNat) h) : Int) := by
  induction l with
  | nil => exact fun h h1 h2 => ⟨h1, h2, rfl⟩
  | cons c r ih =>
    intro h h1 h2
    obtain ⟨s1, s2, s3⟩ := step_val h1 h2 c.toNat_lt
    obtain ⟨i1, i2, i3⟩ := ih _ s1 s2
    simp only [List.foldl_cons]
    refine ⟨i1, i2, ?_⟩
    rw [← i3]
    clear i1 i2 i3
    have hv : valL h < 18446744073709551616 := val_lt h2
    have hs : fnvStep (valL h) c = (valL (stepL h c.toNat) : Int) := by
      unfold fnvStep
      rw [u64_xor_nat _ _ hv (by have := c.toNat_lt; omega), s3]
      simp only [IntKind.wrap, IntKind.signed, IntKind.bits]
      simp
    show fnvOn (fnvStep (valL h) c) r = _
    rw [hs]
theorem limbs_ok (l : List UInt8) : (hashLimbs l).length = 8 ∧ (∀ j, (hashLimbs l).getD j 0 < 256) ∧ fnv l = (valL (hashLimbs l) : Int) := by
  have := limbs_gen l beginL rfl (by
    intro j
    match j with
    | 0 | 1 | 2 | 3 | 4 | 5 | 6 | 7 => decide
    | n + 8 => simp [beginL])
  have e : ((valL beginL : Nat) : Int) = 14695981039346656037 := by decide
  rw [e] at this
  exact this
theorem limbs_lb (l : List UInt8) : LB 255 (hashLimbs l) := ⟨(limbs_ok l).1, fun j => by have := (limbs_ok l).2.1 j; omega⟩
/-- The digits of limbs, the highest one first. -/
def digL (h : List Nat) : List UInt8 := h.reverse.flatMap fun x => [hexc (x / 16), hexc (x % 16)]
/-- k digits of a number. -/
def hexK : Nat → Nat → List UInt8
  | 0, _ => []
  | k + 1, n => hexK k (n / 16) ++ [hexc (n % 16)]
theorem hexK_len : ∀ k n, (hexK k n).length = k
  | 0, _ => rfl
  | k + 1, n => by simp [hexK, hexK_len k]
theorem hexK_zero : ∀ k, hexK k 0 = List.replicate k 48
  | 0 => rfl
  | k + 1 => by
    have : hexc 0 = 48 := by decide
    simp [hexK, hexK_zero k, this, List.replicate_succ']
theorem hexK_eq : ∀ k n, n < 16 ^ (k + 1) → hexK (k + 1) n = List.replicate (k + 1 - (hexL n).length) 48 ++ hexL n
  | 0, n, h => by
    have : n < 16 := by simpa using h
    rw [hexL_lt this]
    simp [hexK, Nat.mod_eq_of_lt this]
  | k + 1, n, h => by
    by_cases h16 : n < 16
    · rw [hexL_lt h16]
      have : n / 16 = 0 := Nat.div_eq_of_lt h16
      rw [hexK, this, hexK_zero, Nat.mod_eq_of_lt h16]
      simp
    · rw [hexL_ge (by omega), hexK, hexK_eq k (n / 16) (by rw [Nat.pow_succ] at h; omega)]
      simp
theorem digL_hex16 {h : List Nat} (hl : h.length = 8) (hb : ∀ j, h.getD j 0 < 256) : digL h = hex16 (valL h) := by
  have hv : valL h < 16 ^ (15 + 1) := Nat.lt_of_lt_of_le (val_lt hb) (by decide)
  have h16 := hexK_eq 15 (valL h) hv
  unfold hex16
  rw [show (16 : Nat) - (hexL (valL h)).length = 15 + 1 - (hexL (valL h)).length from rfl, ← h16]
  obtain ⟨h0, h1, h2, h3, h4, h5, h6, h7, rfl⟩ := eight hl
  have b0 : h0 < 256 := hb 0
  have b1 : h1 < 256 := hb 1
  have b2 : h2 < 256 := hb 2
  have b3 : h3 < 256 := hb 3
  have b4 : h4 < 256 := hb 4
  have b5 : h5 < 256 := hb 5
  have b6 : h6 < 256 := hb 6
  have b7 : h7 < 256 := hb 7
  have two : ∀ k x m, x < 256 → hexK (k + 2) (x + 256 * m) = hexK k m ++ [hexc (x / 16), hexc (x % 16)] := by
    intro k x m hx
    have e1 : (x + 256 * m) % 16 = x % 16 := by omega
    have e2 : (x + 256 * m) / 16 % 16 = x / 16 := by omega
    have e3 : (x + 256 * m) / 16 / 16 = m := by omega
    simp [hexK, e1, e2, e3]
  have e : valL [h0, h1, h2, h3, h4, h5, h6, h7] = h0 + 256 * (h1 + 256 * (h2 + 256 * (h3 + 256 * (h4 + 256 * (h5 + 256 * (h6 + 256 * (h7 + 256 * 0))))))) := by
    simp only [valL, List.getD_cons_zero, List.getD_cons_succ]; omega
  rw [e]
  show _ = hexK (14 + 2) _
  rw [two 14 _ _ b0, two 12 _ _ b1, two 10 _ _ b2, two 8 _ _ b3, two 6 _ _ b4, two 4 _ _ b5, two 2 _ _ b6, two 0 _ _ b7]
  simp [digL, hexK]
theorem hash_limbs (l : List UInt8) : digL (hashLimbs l) = hashL l := by
  obtain ⟨h1, h2, h3⟩ := limbs_ok l
  unfold hashL
  rw [h3, digL_hex16 h1 h2]
  simp
end Go.Proofs.YtcmpindjgfojaaaDoor
