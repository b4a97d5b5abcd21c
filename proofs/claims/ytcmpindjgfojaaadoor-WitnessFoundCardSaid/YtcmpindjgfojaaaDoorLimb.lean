/- Numbers in eight bytes: the plain law of the reference hash. -/
import Derived.Test.YtcmpindjgfojaaaDoorLib
namespace Go.Proofs.YtcmpindjgfojaaaDoor
theorem limb_mul (h0 h1 h2 h3 h4 h5 h6 h7 : Nat) (b0 : h0 < 256) (b1 : h1 < 256) (b2 : h2 < 256) (b3 : h3 < 256) (b4 : h4 < 256) (b5 : h5 < 256) (b6 : h6 < 256) (b7 : h7 < 256)
   (n0 n1 n2 n3 n4 n5 n6 n7 c1 c2 c3 c4 c5 c6 c7 : Nat)
   (e0 : n0 = 179*h0) (e1 : n1 = 179*h1+h0) (e2 : n2 = 179*h2+h1) (e3 : n3 = 179*h3+h2) (e4 : n4 = 179*h4+h3) (e5 : n5 = 179*h5+h4+h0) (e6 : n6 = 179*h6+h5+h1) (e7 : n7 = 179*h7+h6+h2)
   (f1 : c1 = n0/256) (f2 : c2 = (c1+n1)/256) (f3 : c3 = (c2+n2)/256) (f4 : c4 = (c3+n3)/256) (f5 : c5 = (c4+n4)/256) (f6 : c6 = (c5+n5)/256) (f7 : c7 = (c6+n6)/256) :
   n0%256 + 256*((c1+n1)%256) + 65536*((c2+n2)%256) + 16777216*((c3+n3)%256) + 4294967296*((c4+n4)%256) + 1099511627776*((c5+n5)%256) + 281474976710656*((c6+n6)%256) + 72057594037927936*((c7+n7)%256)
   = ((h0 + 256*h1 + 65536*h2 + 16777216*h3 + 4294967296*h4 + 1099511627776*h5 + 281474976710656*h6 + 72057594037927936*h7) * 1099511628211) % 18446744073709551616 := by
  have key : (h0 + 256*h1 + 65536*h2 + 16777216*h3 + 4294967296*h4 + 1099511627776*h5 + 281474976710656*h6 + 72057594037927936*h7) * 1099511628211 = n0 + 256*n1 + 65536*n2 + 16777216*n3 + 4294967296*n4 + 1099511627776*n5 + 281474976710656*n6 + 72057594037927936*n7 + 18446744073709551616 * (h7 + h3 + 256*h4 + 65536 * h5 + 16777216 * h6 + 4294967296*h7) := by
    subst e0 e1 e2 e3 e4 e5 e6 e7
    omega
  rw [key, Nat.add_mul_mod_self_left]
  clear key e0 e1 e2 e3 e4 e5 e6 e7 b0 b1 b2 b3 b4 b5 b6 b7
  omega
theorem xor_low (h m c : Nat) (hh : h < 256) (hc : c < 256) : (h + 256 * m) ^^^ c = (h ^^^ c) + 256 * m := by
  have h1 : (h ^^^ c) < 2 ^ 8 := Nat.xor_lt_two_pow hh hc
  rw [Nat.add_comm, Nat.add_comm (h ^^^ c), show (256 : Nat) = 2 ^ 8 by rfl]
  rw [Nat.two_pow_add_eq_or_of_lt (i := 8) (a := m) (b := h) hh, Nat.two_pow_add_eq_or_of_lt (i := 8) h1]
  apply Nat.eq_of_testBit_eq
  intro i
  simp only [Nat.testBit_xor, Nat.testBit_or, Nat.testBit_two_pow_mul]
  by_cases hi : 8 ≤ i
  · have : c.testBit i = false := Nat.testBit_lt_two_pow (Nat.lt_of_lt_of_le hc (Nat.pow_le_pow_right (show 0 < 2 by decide) hi))
    simp [this, hi]
  · simp [hi]
end Go.Proofs.YtcmpindjgfojaaaDoor
