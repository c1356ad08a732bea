/- Numbers read from texts. -/
import Derived.Test.YtjjdadbbiciigaaGreatDoorPoEvItoa
namespace Go.Ev
set_option linter.unusedVariables false

def isDig (c : Int) : Prop := 48 ≤ c ∧ c ≤ 57
instance (c : Int) : Decidable (isDig c) := by unfold isDig; infer_instance

def numR : List Int -> Nat -> Bool -> Int -> Int × Nat × Int
 |[], k, z, n => if k = 0 then (0, 0, 6) else (n, k, 0)
 |c :: cs, k, z, n => if isDig c then (if k = 4 ∨ (k = 1 ∧ z = true) then (0, k, 6) else numR cs (k + 1) (if k = 0 then decide (c = 48) else z) (10 * n + (c - 48))) else (if k = 0 then (0, 0, 6) else (n, k, 0))

def numL (l : List Int) : Int × Nat × Int := numR l 0 false 0

def numS (b : List Int) (vat : Int) : Int × Int × Int :=
 if vat < 0 ∨ vat > (b.length : Int) then (0, 0, 1) else ((numL (b.drop vat.toNat)).1, vat + (numL (b.drop vat.toNat)).2.1, (numL (b.drop vat.toNat)).2.2)

theorem itoaI2 {n : Int} (h0 : 10 ≤ n) (h1 : n < 100) : itoaI n = [48 + n / 10, 48 + n % 10] := by
 rw [itoaI_step (by omega), if_neg (by omega), Int.tdiv_eq_ediv_of_nonneg (by omega), Int.tmod_eq_emod_of_nonneg (by omega), itoaI_one (by omega) (by omega)]
 rfl
theorem itoaI3 {n : Int} (h0 : 100 ≤ n) (h1 : n < 1000) : itoaI n = [48 + n / 100, 48 + n / 10 % 10, 48 + n % 10] := by
 rw [itoaI_step (by omega), if_neg (by omega), Int.tdiv_eq_ediv_of_nonneg (by omega), Int.tmod_eq_emod_of_nonneg (by omega), itoaI2 (by omega) (by omega)]
 rw [show n / 10 / 10 = n / 100 from by omega]
 rfl
theorem itoaI4 {n : Int} (h0 : 1000 ≤ n) (h1 : n < 10000) : itoaI n = [48 + n / 1000, 48 + n / 100 % 10, 48 + n / 10 % 10, 48 + n % 10] := by
 rw [itoaI_step (by omega), if_neg (by omega), Int.tdiv_eq_ediv_of_nonneg (by omega), Int.tmod_eq_emod_of_nonneg (by omega), itoaI3 (by omega) (by omega)]
 rw [show n / 10 / 100 = n / 1000 from by omega, show n / 10 / 10 % 10 = n / 100 % 10 from by omega]
 rfl

def noDig : List Int -> Prop
 |[] => True
 |c :: _ => ¬ isDig c

theorem dig_num {c : Int} (h : isDig c) : ∃ d, c = 48 + d ∧ 0 ≤ d ∧ d < 10 := ⟨c - 48, by omega, by unfold isDig at h; omega, by unfold isDig at h; omega⟩

theorem num_there {l : List Int} {n : Int} {k : Nat} (h : numL l = (n, k, 0)) : 0 ≤ n ∧ n < 10000 ∧ k = (itoaI n).length ∧ ∃ rest, l = itoaI n ++ rest ∧ noDig rest := by
 unfold numL at h
 have fin : ∀ {cs : List Int} {m : Nat} {z : Bool} {x : Int}, m ≠ 0 -> (∀ c ∈ cs.head?, isDig c -> m = 4 ∨ (m = 1 ∧ z = true)) -> numR cs m z x = (n, k, 0) -> noDig cs ∧ n = x ∧ k = m := by
  intro cs m z x hm hz hh
  cases cs with
  |nil =>
   simp [numR, hm] at hh
   exact ⟨trivial, hh.1.symm, hh.2.symm⟩
  |cons c cs =>
   simp only [numR] at hh
   by_cases d : isDig c
   ·rw [if_pos d, if_pos (hz c rfl d)] at hh
    simp at hh
   ·rw [if_neg d, if_neg hm] at hh
    simp at hh
    exact ⟨d, hh.1.symm, hh.2.symm⟩
 cases l with
 |nil => simp [numR] at h
 |cons c1 r1 =>
  simp only [numR] at h
  by_cases d1 : isDig c1
  ·rw [if_pos d1, if_neg (by omega), if_pos trivial] at h
   obtain ⟨e1, rfl, b1, b1'⟩ := dig_num d1
   by_cases z1 : e1 = 0
   ·obtain ⟨hn, rfl, rfl⟩ := fin (by omega) (fun c _ _ => .inr ⟨rfl, by simp [z1]⟩) h
    subst z1
    exact ⟨by omega, by omega, by rw [itoaI_one (by omega) (by omega)]; rfl, r1, by rw [itoaI_one (by omega) (by omega)]; rfl, hn⟩
   have zf : decide (48 + e1 = 48) = false := decide_eq_false (by omega)
   rw [zf] at h
   cases r1 with
   |nil =>
    obtain ⟨hn, rfl, rfl⟩ := fin (by omega) (fun c hc _ => by simp at hc) h
    have e : 10 * 0 + (48 + e1 - 48) = e1 := by omega
    rw [e]
    exact ⟨by omega, by omega, by rw [itoaI_one (by omega) (by omega)]; rfl, [], by rw [itoaI_one (by omega) (by omega)]; rfl, trivial⟩
   |cons c2 r2 =>
    by_cases d2 : isDig c2
    ·simp only [numR] at h
     rw [if_pos d2, if_neg (by simp), if_neg (by omega)] at h
     obtain ⟨e2, rfl, b2, b2'⟩ := dig_num d2
     cases r2 with
     |nil =>
      obtain ⟨hn, rfl, rfl⟩ := fin (by omega) (fun c hc _ => by simp at hc) h
      have e : 10 * (10 * 0 + (48 + e1 - 48)) + (48 + e2 - 48) = 10 * e1 + e2 := by omega
      rw [e, itoaI2 (by omega) (by omega), show (10 * e1 + e2) / 10 = e1 from by omega, show (10 * e1 + e2) % 10 = e2 from by omega]
      exact ⟨by omega, by omega, rfl, [], rfl, trivial⟩
     |cons c3 r3 =>
      by_cases d3 : isDig c3
      ·simp only [numR] at h
       rw [if_pos d3, if_neg (by omega), if_neg (by omega)] at h
       obtain ⟨e3, rfl, b3, b3'⟩ := dig_num d3
       cases r3 with
       |nil =>
        obtain ⟨hn, rfl, rfl⟩ := fin (by omega) (fun c hc _ => by simp at hc) h
        have e : 10 * (10 * (10 * 0 + (48 + e1 - 48)) + (48 + e2 - 48)) + (48 + e3 - 48) = 100 * e1 + 10 * e2 + e3 := by omega
        rw [e, itoaI3 (by omega) (by omega), show (100 * e1 + 10 * e2 + e3) / 100 = e1 from by omega, show (100 * e1 + 10 * e2 + e3) / 10 % 10 = e2 from by omega, show (100 * e1 + 10 * e2 + e3) % 10 = e3 from by omega]
        exact ⟨by omega, by omega, rfl, [], rfl, trivial⟩
       |cons c4 r4 =>
        by_cases d4 : isDig c4
        ·simp only [numR] at h
         rw [if_pos d4, if_neg (by omega), if_neg (by omega)] at h
         obtain ⟨e4, rfl, b4, b4'⟩ := dig_num d4
         obtain ⟨hn, rfl, rfl⟩ := fin (by omega) (fun c hc _ => .inl rfl) h
         have e : 10 * (10 * (10 * (10 * 0 + (48 + e1 - 48)) + (48 + e2 - 48)) + (48 + e3 - 48)) + (48 + e4 - 48) = 1000 * e1 + 100 * e2 + 10 * e3 + e4 := by omega
         rw [e, itoaI4 (by omega) (by omega), show (1000 * e1 + 100 * e2 + 10 * e3 + e4) / 1000 = e1 from by omega, show (1000 * e1 + 100 * e2 + 10 * e3 + e4) / 100 % 10 = e2 from by omega, show (1000 * e1 + 100 * e2 + 10 * e3 + e4) / 10 % 10 = e3 from by omega, show (1000 * e1 + 100 * e2 + 10 * e3 + e4) % 10 = e4 from by omega]
         exact ⟨by omega, by omega, rfl, r4, rfl, hn⟩
        ·obtain ⟨hn, rfl, rfl⟩ := fin (by omega) (fun c hc hd => by simp at hc; subst hc; exact absurd hd d4) h
         have e : 10 * (10 * (10 * 0 + (48 + e1 - 48)) + (48 + e2 - 48)) + (48 + e3 - 48) = 100 * e1 + 10 * e2 + e3 := by omega
         rw [e, itoaI3 (by omega) (by omega), show (100 * e1 + 10 * e2 + e3) / 100 = e1 from by omega, show (100 * e1 + 10 * e2 + e3) / 10 % 10 = e2 from by omega, show (100 * e1 + 10 * e2 + e3) % 10 = e3 from by omega]
         exact ⟨by omega, by omega, rfl, c4 :: r4, rfl, hn⟩
      ·obtain ⟨hn, rfl, rfl⟩ := fin (by omega) (fun c hc hd => by simp at hc; subst hc; exact absurd hd d3) h
       have e : 10 * (10 * 0 + (48 + e1 - 48)) + (48 + e2 - 48) = 10 * e1 + e2 := by omega
       rw [e, itoaI2 (by omega) (by omega), show (10 * e1 + e2) / 10 = e1 from by omega, show (10 * e1 + e2) % 10 = e2 from by omega]
       exact ⟨by omega, by omega, rfl, c3 :: r3, rfl, hn⟩
    ·obtain ⟨hn, rfl, rfl⟩ := fin (by omega) (fun c hc hd => by simp at hc; subst hc; exact absurd hd d2) h
     have e : 10 * 0 + (48 + e1 - 48) = e1 := by omega
     rw [e]
     exact ⟨by omega, by omega, by rw [itoaI_one (by omega) (by omega)]; rfl, c2 :: r2, by rw [itoaI_one (by omega) (by omega)]; rfl, hn⟩
  ·rw [if_neg d1, if_pos trivial] at h
   simp at h

theorem numR_le : ∀ (l : List Int) (k : Nat) (z : Bool) (n : Int), (numR l k z n).2.1 ≤ k + l.length
 |[], k, z, n => by
  simp only [numR]
  split <;> simp
 |c :: cs, k, z, n => by
  simp only [numR]
  split
  ·split
   ·simp
   ·have := numR_le cs (k + 1) (if k = 0 then decide (c = 48) else z) (10 * n + (c - 48))
    simp
    omega
  ·split <;> simp

theorem numL_le (l : List Int) : (numL l).2.1 ≤ l.length := by
 have := numR_le l 0 false 0
 unfold numL
 omega

theorem itoaI_pos (n : Int) : 0 < (itoaI n).length := by
 by_cases c : n < 0
 ·rw [itoaI_neg c]
  simp
 ·rw [itoaI_nonneg c]
  by_cases d : n.toNat < 10
  ·rw [digI_lt d]
   simp
  ·rw [digI_ge d]
   simp

end Go.Ev
