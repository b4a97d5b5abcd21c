/- The plain law of WitnessFound. -/
import Derived.Test.YtcmpindjgfojaaaDoorGuess
namespace Go.Proofs.YtcmpindjgfojaaaDoor

theorem findS_some {p : Int} {wanted n v : Nat} {s : ByteArray} : ∀ {xs : List ByteArray}, findS p wanted n xs = some (v, s) → s ∈ xs ∧ v < n ∧ hitB p wanted s v = true
  | [], h => by cases h
  | x :: r, h => by
    unfold findS at h
    split at h
    · rename_i u hu
      simp only [Option.some.injEq, Prod.mk.injEq] at h
      obtain ⟨rfl, rfl⟩ := h
      exact ⟨by simp, by simpa using List.mem_of_find?_eq_some hu, List.find?_some hu⟩
    · obtain ⟨h1, h2⟩ := findS_some h
      exact ⟨List.mem_cons_of_mem _ h1, h2⟩
theorem findS_none {p : Int} {wanted n : Nat} : ∀ {xs : List ByteArray}, findS p wanted n xs = none → ∀ s ∈ xs, ∀ v, v < n → hitB p wanted s v = false
  | [], _, s, hs, _, _ => by cases hs
  | x :: r, h, s, hs, v, hv => by
    unfold findS at h
    split at h
    · cases h
    · rename_i hn
      rcases List.mem_cons.1 hs with rfl | hs
      · have := List.find?_eq_none.1 hn v (List.mem_range.2 hv)
        simpa using this
      · exact findS_none h s hs v hv
theorem guess_found {p : Int} {val : Nat} {s0 : ByteArray} {xs : List ByteArray} (hp : 1 ≤ p ∧ p ≤ 30) (hval : val < 100) (hs0 : s0 ∈ xs) (hl : xs.length ≤ 8) (hok : ∀ x ∈ xs, saltB x.data.toList = true) :
    ∃ (v : Nat) (s : ByteArray), guessR ⟨(hashL (textL p val s0.data.toList)).toArray⟩ p 100 xs = ((p, (v : Int), s), 0) ∧ s ∈ xs ∧ v < 100 ∧ sealR p v s.data.toList = (hashL (textL p val s0.data.toList), 0) := by
  have hH := hashL_ok (textL p val s0.data.toList)
  have hno : xs.any badB = false := by
    rw [List.any_eq_false]
    intro x hx
    unfold badB
    rw [hok x hx]; simp
  obtain ⟨f0, f1⟩ := fnv_bd (textL p val s0.data.toList)
  have hW : (hexV (hashL (textL p val s0.data.toList)) : Int) = fnv (textL p val s0.data.toList) := by
    have := (hex16_iff (u := (fnv (textL p val s0.data.toList)).toNat) (l := hashL (textL p val s0.data.toList)) (by omega) hH).1 rfl
    omega
  unfold guessR
  simp only [List.toList_toArray]
  rw [hH, if_neg (by simp), if_neg (by omega), hno, if_neg (by simp), if_neg (by omega)]
  cases hf : findS p (hexV (hashL (textL p val s0.data.toList))) (100 : Int).toNat xs with
  | none =>
    have := findS_none hf s0 hs0 val (by omega)
    unfold hitB at this
    rw [hW] at this
    simp at this
  | some r =>
    obtain ⟨v, s⟩ := r
    obtain ⟨h1, h2, h3⟩ := findS_some hf
    refine ⟨v, s, rfl, h1, by omega, ?_⟩
    unfold hitB at h3
    rw [decide_eq_true_eq, hW] at h3
    unfold sealR boxB
    rw [hok s h1]
    rw [if_pos (by simp; omega)]
    unfold hashL
    rw [h3]
end Go.Proofs.YtcmpindjgfojaaaDoor
