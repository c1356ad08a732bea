/- text.Export: a machine of the second kind. -/
import Derived.Test.YtjjdadbbiciigaaGreatDoorPoEvExpC9
import Derived.Test.YtjjdadbbiciigaaGreatDoorPoEvText
namespace Go.Ev
open Go.Proofs Go.Shelf Go.RowKit Go.Lib
set_option maxRecDepth 1000000
set_option linter.unusedVariables false
set_option linter.unusedSimpArgs false

variable {w wr : World} {m : Array Value} {b : Nat} {xs : List Int}

set_option maxHeartbeats 6400000 in
theorem x_export2 (K O N : Int) (nx ou : List Int) (F : Fine 2 K O N nx ou) (w : World) (an ao : Addr) (cn co : Nat)
    (hn : ∀ j, j < nx.length -> w.cell? (an.add j) = some (.int .i64 (nx.getD j 0))) (ho : ∀ j, j < ou.length -> w.cell? (ao.add j) = some (.int .i64 (ou.getD j 0)))
    (hck : ∀ w1, Below w.heap.size w w1 -> Calls Tryz.prog 53 #[.agg #[.int .i64 2, .int .i64 K, .int .i64 O, .int .i64 N, .slice (some an) nx.length cn, .slice (some ao) ou.length co]] w1 fun e w2 => ∃ i, e = .returned (.tuple #[.int .i64 i, .int .i64 0]) ∧ Below w1.heap.size w1 w2)
    (htab : Lib.TabBelow Tryz.prog w.heap.size w "internal/strconv.uint64pow10" .u64 Lib.pow10Tab) :
    Calls Tryz.prog 151 #[.agg #[.int .i64 2, .int .i64 K, .int .i64 O, .int .i64 N, .slice (some an) nx.length cn, .slice (some ao) ou.length co]] w fun e w' => ∃ v, e = .returned (.tuple #[v, .int .i64 0]) ∧ w'.ownsRow w.heap.size 5 1 v (expS 2 K O N nx ou).length (cellsI (expS 2 K O N nx ou)) ∧ Below w.heap.size w w' := by
  have fK := F.fK
  have fN := F.fN
  have fO := F.fO
  have hnI : ∀ x ∈ nx, inI x := fun x h => by
    have := F.fnxs x h
    exact ⟨by omega, by omega⟩
  have hoI : ∀ x ∈ ou, inI x := fun x h => by
    have := F.fous x h
    exact ⟨by omega, by omega⟩
  have hI : ∀ {x : Int}, 0 ≤ x -> x ≤ 2000 -> inI x := fun h1 h2 => ⟨by omega, by omega⟩
  go_enter Tryz.func151, Tryz.ntmps151
  go_wp2_with (go_at_call 53; refine (hck _ ((Below.refl _ w).alloc (Nat.le_refl _) _)).mono ?_; rintro e w2 ⟨i, rfl, b2⟩; refine Hid.out ?_)
  refine Lib.hid ?_
  have hm2 : w2.heap[w.heap.size]? = some (.cells #[.int .i64 2, .int .i64 K, .int .i64 O, .int .i64 N, .slice (some an) nx.length cn, .slice (some ao) ou.length co] 47 (0, 0)) := by
    rw [b2.block _ (by simp)]
    exact Array.getElem?_push_size
  have S2 : ExpSt w #[.int .i64 2, .int .i64 K, .int .i64 O, .int .i64 N, .slice (some an) nx.length cn, .slice (some ao) ou.length co] w2.heap.size [] (w2.alloc (.cells #[.slice none 0 0, .int .i64 0, .int .i8 0] 247)) := by
    have hsz := b2.size
    simp at hsz
    have hb0 : Below w.heap.size w w2 := ((Below.refl _ w).alloc (Nat.le_refl _) _).trans (below_weak b2 (by simp))
    refine ⟨?_, ?_, hb0.alloc (by omega) _, by omega⟩
    · rw [Below.heap_alloc _ _ _ (by omega)]
      exact hm2
    · obtain ⟨_, h2⟩ := Lib.fresh_isBuffer 247 5 w2
      exact ⟨by omega, by
        obtain ⟨v, lr, h3, h4, h5⟩ := h2
        exact ⟨v, lr, h3, ⟨h4.1, by rcases h4.2 with h | ⟨g, cap, cur, e1, e2, e3⟩; exact .inl h; exact .inr ⟨g, cap, cur, e1, by omega, e3⟩⟩, h5⟩⟩
  have c0 := S2.cell 0
  have c1 := S2.cell 1
  have c3 := S2.cell 3
  simp at c0 c1 c3
  go_wp2_with (go_at_call 157; refine (S2.str _ (by decide)).mono ?_; rintro e w3 ⟨rfl, S3⟩; refine Hid.out ?_)
  refine Lib.hid ?_
  have S3 : ExpSt w #[.int .i64 2, .int .i64 K, .int .i64 O, .int .i64 N, .slice (some an) nx.length cn, .slice (some ao) ou.length co] w2.heap.size [109, 101, 97, 108, 121, 32] w3 := S3
  generalize w2.heap.size = b at S3
  clear S2 c0 c1 c3 hm2 b2
  have c1 := S3.cell 1
  simp at c1
  go_wp2_with (go_at_call 154; refine (S3.put K 32 (hI (by omega) (by omega)) (by decide) htab).mono ?_; rintro e w4 ⟨rfl, S4⟩; refine Hid.out ?_)
  refine Lib.hid ?_
  clear S3 c1
  have c2 := S4.cell 2
  simp at c2
  have l0 := itoaI_len (hI (x := O) (by omega) (by omega))
  have l1 := itoaI_len (hI (x := K) (by omega) (by omega))
  have l2 := itoaI_len (hI (x := N) (by omega) (by omega))
  go_wp2_with (go_at_call 154; refine (S4.put O 32 (hI (by omega) (by omega)) (by simp only [List.length_append, List.length_cons, List.length_nil]; omega) htab).mono ?_; rintro e w4a ⟨rfl, S4a⟩; refine Hid.out ?_)
  refine Lib.hid ?_
  clear S4 c2
  have c3 := S4a.cell 3
  simp at c3
  go_wp2_with (go_at_call 154; refine (S4a.put N 10 (hI (by omega) (by omega)) (by simp only [List.length_append, List.length_cons, List.length_nil]; omega) htab).mono ?_; rintro e w5 ⟨rfl, S5⟩; refine Hid.out ?_)
  refine Lib.hid ?_
  have S5 : ExpSt w #[.int .i64 2, .int .i64 K, .int .i64 O, .int .i64 N, .slice (some an) nx.length cn, .slice (some ao) ou.length co] b (expHead 2 K O N ++ expRows 2 K nx ou 0) w5 := by
    have e : expHead 2 K O N ++ expRows 2 K nx ou 0 = [109, 101, 97, 108, 121, 32] ++ itoaI K ++ [32] ++ itoaI O ++ [32] ++ itoaI N ++ [10] := by
      unfold expHead
      rw [if_neg (by decide)]
      simp [expRows]
    rw [e]
    exact S5
  clear S4a c3
  have c3 := S5.cell 3
  simp at c3
  go_wp2
  go_loopw [47] (fun i wr => ∃ s : Nat, s ≤ N.toNat ∧ i = .int .i64 s ∧ ExpSt w #[.int .i64 2, .int .i64 K, .int .i64 O, .int .i64 N, .slice (some an) nx.length cn, .slice (some ao) ou.length co] b (expHead 2 K O N ++ expRows 2 K nx ou s) wr) (fun i _ => N.toNat - (RowKit.intOf i).toNat)
  case atStart => exact ⟨0, Nat.zero_le _, rfl, S5⟩
  case round =>
    obtain ⟨s, hs, rfl, S⟩ := hrel
    have c0 := S.cell 0
    have c1 := S.cell 1
    have c5 := S.cell 5
    simp at c0 c1 c5
    by_cases hlt : (s : Int) < N
    · have lh := expHead_len (k := 2) (hI (x := K) (by omega) (by omega)) (hI (x := O) (by omega) (by omega)) (hI (x := N) (by omega) (by omega))
      have lr := expRows_len (k := 2) (K := K) hnI hoI (by omega) s
      have S6 : ExpSt w #[.int .i64 2, .int .i64 K, .int .i64 O, .int .i64 N, .slice (some an) nx.length cn, .slice (some ao) ou.length co] b (expHead 2 K O N ++ expRows 2 K nx ou s ++ expLead 2 ou s ++ expCells 2 K nx ou s 0) wr := by
        have e : expHead 2 K O N ++ expRows 2 K nx ou s ++ expLead 2 ou s ++ expCells 2 K nx ou s 0 = expHead 2 K O N ++ expRows 2 K nx ou s := by
          unfold expLead
          rw [if_neg (by decide)]
          simp [expCells]
        rw [e]
        exact S
      go_wp2
      go_loopw [62] (fun j wr => ∃ x : Nat, x ≤ K.toNat ∧ j = .int .i64 x ∧ ExpSt w #[.int .i64 2, .int .i64 K, .int .i64 O, .int .i64 N, .slice (some an) nx.length cn, .slice (some ao) ou.length co] b (expHead 2 K O N ++ expRows 2 K nx ou s ++ expLead 2 ou s ++ expCells 2 K nx ou s x) wr) (fun j _ => K.toNat - (RowKit.intOf j).toNat)
      case atStart => exact ⟨0, Nat.zero_le _, rfl, S6⟩
      case round =>
        obtain ⟨x, hx, rfl, S⟩ := hrel
        have c0 := S.cell 0
        have c1 := S.cell 1
        have c4 := S.cell 4
        simp at c0 c1 c4
        by_cases hxl : (x : Int) < K
        · have hP0 : 0 ≤ (s : Int) * K := Int.mul_nonneg (by omega) (by omega)
          have hP1 : (s : Int) * K + K ≤ N * K := by
            have := Int.mul_le_mul_of_nonneg_right (a := (s : Int) + 1) (b := N) (c := K) (by omega) (by omega)
            rw [Int.add_mul, Int.one_mul] at this
            exact this
          have hP2 : N * K ≤ 65536 := by
            have := Int.mul_le_mul (a := N) (b := K) (c := 1024) (d := 64) (by omega) (by omega) (by omega) (by omega)
            omega
          have hP3 := F.fnx
          have hPn : ((s * K.toNat + x : Nat) : Int) = (s : Int) * K + x := by
            rw [Int.natCast_add, Int.natCast_mul, Int.toNat_of_nonneg (by omega)]
          have lc := expCells_len (k := 2) (K := K) hnI hoI s x
          have ll := expLead_len (k := 2) hoI s
          have rn := S.read (hn (s * K.toNat + x) (by omega))
          have vI2 := getD_in hnI (s * K.toNat + x)
          have hPm : s * K.toNat + x = ((s : Int) * K + x).toNat := by omega
          generalize hv2 : nx.getD (s * K.toNat + x) 0 = v2 at rn vI2
          rw [hPm] at rn
          have hou := F.fou2 rfl
          have hom := ho (s * K.toNat + x) (by omega)
          have vI3 := getD_in hoI (s * K.toNat + x)
          generalize hv3 : ou.getD (s * K.toNat + x) 0 = v3 at hom vI3
          rw [hPm] at hom
          by_cases hxe : (x : Int) = K - 1
          · have rn2 := rn
            rw [hxe] at rn2
            go_wp2_with (go_at_call 154; refine (S.put v2 47 vI2 (by simp only [List.length_append]; omega) htab).mono ?_; rintro e w6 ⟨rfl, S6⟩; refine Hid.out ?_)
            refine Lib.hid ?_
            have lv := itoaI_len vI2
            have c1 := S6.cell 1
            have c5 := S6.cell 5
            simp at c1 c5
            have rm := S6.read hom
            have rm2 := rm
            rw [hxe] at rm2
            go_wp2_with (go_at_call 154; refine (S6.put v3 10 vI3 (by simp only [List.length_append, List.length_cons, List.length_nil]; omega) htab).mono ?_; rintro e w7 ⟨rfl, S7⟩; refine Hid.out ?_)
            refine Lib.hid ?_
            go_wp2
            go_roundw
            case rel =>
              refine ⟨x + 1, by omega, by first | (simp; done) | (simp; omega), ?_⟩
              have e : expCells 2 K nx ou s (x + 1) = expCells 2 K nx ou s x ++ itoaI v2 ++ [47] ++ itoaI v3 ++ [10] := by
                simp only [expCells, expCell, behind, hv2, hv3, if_pos hxe, if_neg (show ¬ (2 : Int) = 1 by decide), List.append_assoc]
              rw [e]
              simpa only [List.append_assoc] using S7
            case measure =>
              simp [RowKit.intOf]
              omega
          · go_wp2_with (go_at_call 154; refine (S.put v2 47 vI2 (by simp only [List.length_append]; omega) htab).mono ?_; rintro e w6 ⟨rfl, S6⟩; refine Hid.out ?_)
            refine Lib.hid ?_
            have lv := itoaI_len vI2
            have c1 := S6.cell 1
            have c5 := S6.cell 5
            simp at c1 c5
            have rm := S6.read hom
            go_wp2_with (go_at_call 154; refine (S6.put v3 32 vI3 (by simp only [List.length_append, List.length_cons, List.length_nil]; omega) htab).mono ?_; rintro e w7 ⟨rfl, S7⟩; refine Hid.out ?_)
            refine Lib.hid ?_
            go_wp2
            go_roundw
            case rel =>
              refine ⟨x + 1, by omega, by first | (simp; done) | (simp; omega), ?_⟩
              have e : expCells 2 K nx ou s (x + 1) = expCells 2 K nx ou s x ++ itoaI v2 ++ [47] ++ itoaI v3 ++ [32] := by
                simp only [expCells, expCell, behind, hv2, hv3, if_neg hxe, if_neg (show ¬ (2 : Int) = 1 by decide), List.append_assoc]
              rw [e]
              simpa only [List.append_assoc] using S7
            case measure =>
              simp [RowKit.intOf]
              omega
        · go_wp2
          go_roundw
          case rel =>
            refine ⟨s + 1, by omega, by simp, ?_⟩
            have ex : x = K.toNat := by omega
            subst ex
            have e : expRows 2 K nx ou (s + 1) = expRows 2 K nx ou s ++ expLead 2 ou s ++ expCells 2 K nx ou s K.toNat := rfl
            rw [e]
            simpa only [List.append_assoc] using S
          case measure =>
            simp [RowKit.intOf]
            omega
    · have es : s = N.toNat := by omega
      subst es
      have lh := expHead_len (k := 2) (hI (x := K) (by omega) (by omega)) (hI (x := O) (by omega) (by omega)) (hI (x := N) (by omega) (by omega))
      have lr := expRows_len (k := 2) (K := K) hnI hoI (by omega) N.toNat
      have lp := expHead_pos 2 K O N
      have S : ExpSt w #[.int .i64 2, .int .i64 K, .int .i64 O, .int .i64 N, .slice (some an) nx.length cn, .slice (some ao) ou.length co] b (expS 2 K O N nx ou) wr := S
      have ll : (expS 2 K O N nx ou).length ≤ 3000 * 1024 + 80 ∧ 0 < (expS 2 K O N nx ou).length := by
        unfold expS
        simp only [List.length_append]
        omega
      go_wp2_with (go_at_call 159; refine (Any.Buffer_Bytes Tryz.lays183 w.heap.size b _ wr S.buf).mono ?_; rintro e w6 ⟨v, rfl, o, n, rfl⟩; refine Hid.out ?_)
      refine Lib.hid ?_
      rcases o.2 with ⟨_, h0⟩ | ⟨g, cap, cur, rfl, hg0, hg, hcap, hcm, hcs, htake⟩
      · simp [cellsI] at h0
        simp [h0] at ll
      have hcell : ∀ j, j < (cellsI (expS 2 K O N nx ou)).length -> (wr.drewN n).cell? ((⟨g, 0, none⟩ : Addr).add j) = some (.int .u8 ((expS 2 K O N nx ou).getD j 0)) := fun j hj => o.cells rfl j _ (by
        have hj' : j < (expS 2 K O N nx ou).length := by simpa [cellsI] using hj
        simp [cellsI, List.getD, List.getElem?_eq_getElem hj'])
      go_wp2_with (go_at_call 158; refine (x_clone ⟨g, 0, none⟩ _ cap (expS 2 K O N nx ou) (wr.drewN n) (by simp [cellsI]) (by simp [cellsI]; omega) hcell).mono ?_; rintro e w7 ⟨v', rfl, o7, b7⟩)
      go_wp2
      go_ret2
      have o7 : w7.ownsRow wr.heap.size 5 1 v' (cellsI (expS 2 K O N nx ou)).length (cellsI (expS 2 K O N nx ou)) := o7
      rw [show (cellsI (expS 2 K O N nx ou)).length = (expS 2 K O N nx ou).length by simp [cellsI]] at o7
      have b8 : Below w.heap.size wr (wr.drewN n) := ⟨rfl, rfl, rfl, Nat.le_refl _, fun _ _ => rfl⟩
      refine ⟨v', rfl, ⟨o7.1, o7.2.imp id ?_⟩, (S.old.trans b8).trans (below_weak b7 S.old.size)⟩
      rintro ⟨g, cap, cur, h1, h2, h3⟩
      exact ⟨g, cap, cur, h1, Nat.le_trans S.old.size h2, h3⟩
end Go.Ev
