/- Decimal numerals, as lists of numbers. -/
import Derived.Test.YtjjdadbbiciigaaGreatDoorPoEvPure
import Derived.Lib.ItoaNum
namespace Go.Ev
set_option linter.unusedVariables false

def digI (u : Nat) : List Int := (Go.Lib.decDigits u).map fun b => (b.toNat : Int)

def itoaI (n : Int) : List Int := (Go.Lib.itoa n).map fun b => (b.toNat : Int)

theorem digI_lt {u : Nat} (h : u < 10) : digI u = [48 + (u : Int)] := by
 unfold digI
 rw [Go.Lib.decDigits, dif_pos h]
 have : (UInt8.ofNat (48 + u)).toNat = 48 + u := by
  rw [UInt8.toNat_ofNat']
  exact Nat.mod_eq_of_lt (by omega)
 simp only [List.map_cons, List.map_nil, this]
 congr 1

theorem digI_ge {u : Nat} (h : ¬ u < 10) : digI u = digI (u / 10) ++ [48 + ((u % 10 : Nat) : Int)] := by
 unfold digI
 rw [Go.Lib.decDigits, dif_neg h]
 have hm := Nat.mod_lt u (show 0 < 10 by decide)
 have : (UInt8.ofNat (48 + u % 10)).toNat = 48 + u % 10 := by
  rw [UInt8.toNat_ofNat']
  exact Nat.mod_eq_of_lt (by omega)
 simp only [List.map_append, List.map_cons, List.map_nil, this]
 congr 2

theorem itoaI_neg {n : Int} (h : n < 0) : itoaI n = 45 :: digI n.natAbs := by
 unfold itoaI Go.Lib.itoa digI
 rw [if_pos h]
 rfl

theorem itoaI_nonneg {n : Int} (h : ¬ n < 0) : itoaI n = digI n.toNat := by
 unfold itoaI Go.Lib.itoa digI
 rw [if_neg h]

theorem wr8 (x : Int) (h0 : 0 ≤ x) (h1 : x ≤ 255) : IntKind.u8.wrap x = x := by
 have e : IntKind.u8.wrap x = x % 256 := by simp [IntKind.wrap, IntKind.bits, IntKind.signed]
 rw [e]
 omega

theorem digI_len : ∀ (k u : Nat), u < 10 ^ (k + 1) -> (digI u).length ≤ k + 1
 |0, u, h => by
  rw [digI_lt (by simpa using h)]
  simp
 |k + 1, u, h => by
  by_cases hu : u < 10
  ·rw [digI_lt hu]
   simp
  ·rw [digI_ge hu, List.length_append]
   have := digI_len k (u / 10) (by rw [Nat.pow_succ] at h; omega)
   simp
   omega

theorem itoaI_len {n : Int} (h : inI n) : (itoaI n).length ≤ 21 := by
 unfold inI at h
 by_cases c : n < 0
 ·rw [itoaI_neg c, List.length_cons]
  have := digI_len 18 n.natAbs (by omega)
  omega
 ·rw [itoaI_nonneg c]
  have := digI_len 18 n.toNat (by omega)
  omega

theorem itoaI_step {n : Int} (h : ¬ (n > -10 ∧ n < 10)) : itoaI n = itoaI (n.tdiv 10) ++ [48 + (if n < 0 then - n.tmod 10 else n.tmod 10)] := by
 by_cases c : n < 0
 ·rw [if_pos c]
  have e1 : n.tdiv 10 = -((n.natAbs / 10 : Nat) : Int) := by
   obtain ⟨u, rfl⟩ : ∃ u : Nat, n = -(u : Int) := ⟨n.natAbs, by omega⟩
   rw [Int.neg_tdiv, Int.tdiv_eq_ediv_of_nonneg (by omega)]
   simp
  have e2 : n.tmod 10 = -((n.natAbs % 10 : Nat) : Int) := by
   obtain ⟨u, rfl⟩ : ∃ u : Nat, n = -(u : Int) := ⟨n.natAbs, by omega⟩
   rw [Int.neg_tmod, Int.tmod_eq_emod_of_nonneg (by omega)]
   simp
  have hd : ¬ n.natAbs < 10 := by omega
  rw [itoaI_neg c, digI_ge hd, e1, e2, itoaI_neg (by omega), Int.natAbs_neg, Int.natAbs_natCast, Int.neg_neg]
  rfl
 ·rw [if_neg c]
  have e1 : n.tdiv 10 = n / 10 := Int.tdiv_eq_ediv_of_nonneg (by omega)
  have e2 : n.tmod 10 = n % 10 := Int.tmod_eq_emod_of_nonneg (by omega)
  have hd : ¬ n.toNat < 10 := by omega
  rw [itoaI_nonneg c, digI_ge hd, e1, e2, itoaI_nonneg (by omega), show (n / 10).toNat = n.toNat / 10 from by omega]
  congr 2
  congr 1
  omega

theorem itoaI_one {n : Int} (h0 : 0 ≤ n) (h1 : n < 10) : itoaI n = [48 + n] := by
 rw [itoaI_nonneg (by omega), digI_lt (by omega)]
 congr 2
 omega

def l_AppendInt {R : Type} (n b : Int) (K0 : List Int -> Option R) : Option R :=
 bi (decide (b = 10 ∧ -9223372036854775808 ≤ n ∧ n ≤ 9223372036854775807)) (K0 (itoaI n)) none

end Go.Ev
