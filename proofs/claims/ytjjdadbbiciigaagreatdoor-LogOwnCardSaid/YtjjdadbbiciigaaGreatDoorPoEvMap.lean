/- Each operation of the abstract machine is one of the machine's: maps; parts of nests. -/
import Derived.Test.YtjjdadbbiciigaaGreatDoorPoEvOps7
import GoSem.Instr.MapUpdate
namespace Go.Ev
set_option linter.unusedVariables false
set_option linter.unusedSimpArgs false
set_option linter.unusedSectionVars false
variable [tG : TabG]

variable {P : Program} {R : Type} {cx : Cx} {β β' : List Value} {ob ob' : List O} {w w' : World} {σ σ' : St} {a a' : Act}
variable {o : Oper} {K : AV -> St -> Option R} {r : R} {Q : Exit -> Act -> World -> Prop} {Γ : FuncId -> Option Sum}

theorem Inner.drop {fl : Bool} {e : TypeId} {t : Ty} {xs : List t.S} {vs : List Value} (h : Inner w ⟨fl, e, t, xs⟩ vs) (n : Nat) : Inner w ⟨fl, e, t, xs.drop n⟩ (vs.drop n) := by
 intro j u hj
 rw [List.getElem?_drop] at hj
 obtain ⟨q, h1, h2, h3⟩ := h _ u hj
 cases t with
 |sl e' t' =>
  simp only [Sq.inn, Option.some.injEq] at h1
  subst h1
  refine ⟨_, rfl, h2, ?_⟩
  have e : (xs.drop n).getD j [] = xs.getD (n + j) [] := by
   rw [List.getD_eq_getElem?_getD, List.getD_eq_getElem?_getD, List.getElem?_drop]
  simp only [e]
  exact h3
 |_ => cases h1

theorem wp_sliceN {t : TypeId} {x : Operand} {lo hi mx : Option Operand} (ho : o.op = .slice t x lo hi mx) (g : Good cx β σ a w) {ai : Nat} (hn : σ.ev x = .nst ai) (h : evOp P Γ o σ K = some r) (lvl : Nat) : Goal P cx K r o lvl β σ a w Q := by
 have hx := g.ev x
 generalize hv : a.eval x = v at hx
 simp only [evOp, ho, hn] at h
 rw [hn] at hx
 split at h
 ·cases h
 split at h
 ·rename_i l h' hl hh
  split at h
  ·rename_i he
   cases he
  ·rename_i e hu
   split at h
   ·rename_i ri hri
    obtain ⟨ie, z, hut, hie, hsz, _⟩ := tyOf_row hri
    obtain rfl : e = ri.e := by
     rw [hu] at hut
     simpa using hut
    have hsz' : sizeT P ri.e = some ri.t.sz := by simp [sizeT, hie, hsz]
    rw [if_neg (by simp [isNil])] at h
    simp only at h
    split at h
    ·rename_i s hob
     split at h
     ·rename_i hc
      obtain ⟨hst, hs1, hhn⟩ := hc
      subst hhn
      have hhi := isIntO_none hh
      have hhi : hi = none := by
       cases hi with
       |none => rfl
       |some q => cases hhi
      subst hhi
      obtain ⟨i, j, hK, hij, hjm, k1, k2, k3, k4⟩ := cut_ok (Nat.le_refl _) h
      have hj : j = s.xs.length := k3 rfl
      subst hj
      cases hx with
      |nst _ _ vs hb =>
       obtain ⟨y1, vs1, e1, hl1, _, ho1, hi1, hf1, hd1⟩ := g.W.obj ai _ _ hob hb
       have e1 := List.cons.inj (by simpa using e1 : v :: vs = y1 :: vs1)
       obtain ⟨rfl, rfl⟩ := e1
       have hd1 : Dist (v :: vs) := hd1
       have m1 : lo.map a.eval = none -> i = 0 := fun h0 => by
        cases lo with
        |none => exact k1 (by simpa [isIntO] using hl.symm)
        |some q => cases h0
       have m2 : ∀ y, lo.map a.eval = some y -> ∃ k, y = .int k (i : Int) := fun y hy => by
        cases lo with
        |none => cases hy
        |some q =>
         cases l with
         |none =>
          have := isIntO_none hl
          cases this
         |some z =>
          obtain ⟨k, hk⟩ := isIntO_some hl
          have hq := g.ev q
          simp at hk hy
          rw [hk] at hq
          rw [rep_v hq] at hy
          rw [← k2 z rfl]
          exact ⟨k, hy.symm⟩
       -- the value
       have hval : ∃ v', (execOp a.eval o).run P w = .ok (.value v') w ∧ ownsOff w s.e v' (vs.drop i) ∧ (∀ b, blk1 v' = some b -> blk1 v = some b) := by
        have run : ∀ {A : Option Addr} {n c : Nat}, v = .slice A n c -> i ≤ n -> n ≤ c -> (execOp a.eval o).run P w = .ok (.value (.slice (if c = i then A else A.map (·.add (i * ri.t.sz))) (n - i) (c - i))) w := by
         intro A n c e h1 h2
         subst e
         simp [execOp, ho, hv, Instr.sliceAt, Instr.slice, run_underlying hu, run_bounds (P := P) (b := true) (n := n) (m := c) (l := lo.map a.eval) (h := none) h1 h2 m1 m2 (fun _ => rfl) (fun _ h => by cases h), run_sizeT hsz']
        rcases ho1 with ⟨rfl, hnil⟩ | ⟨gg, off, cap, cur, rfl, hg, hcap, hcm, hcs, hce⟩
        ·have hi0 : i = 0 := by
          rw [hnil] at hl1
          simp at hl1
          omega
         subst hi0
         have := run rfl (Nat.le_refl _) (Nat.le_refl _)
         refine ⟨.slice none 0 0, by simpa using this, .inl ⟨rfl, by rw [hnil]; rfl⟩, fun b h => h⟩
        ·have h1 : i ≤ vs.length := by rw [hl1]; exact hij
         have hrun := run rfl h1 hcap
         have hz1 : ri.t.sz = 1 := by rw [← hst]; exact hs1
         by_cases hci : cap = i
         ·rw [if_pos hci] at hrun
          refine ⟨_, hrun, .inr ⟨gg, off, cap - i, cur, by rw [List.length_drop], hg, by rw [List.length_drop]; omega, by omega, by omega, fun j u hu => ?_⟩, fun b h => h⟩
          have := get_lt hu
          rw [List.length_drop] at this
          omega
         ·rw [if_neg hci] at hrun
          simp only [Option.map_some, add_lit, hz1, Nat.mul_one] at hrun
          refine ⟨_, hrun, .inr ⟨gg, off + i, cap - i, cur, by rw [List.length_drop], hg, by rw [List.length_drop]; omega, by omega, by omega, fun j u hu => ?_⟩, fun b h => h⟩
          rw [List.getElem?_drop] at hu
          rw [← hce _ u hu]
          congr 1
          omega
       obtain ⟨v', hrun, hoff, hvb⟩ := hval
       have hsub : ∀ u ∈ v' :: vs.drop i, ∀ b, blk1 u = some b -> blk (.tuple (v :: vs).toArray) b := fun u hu b hb => by
        rcases List.mem_cons.1 hu with rfl | hu
        ·exact blk_tuple.2 ⟨v, List.mem_cons_self, hvb b hb⟩
        ·exact blk_tuple.2 ⟨u, List.mem_cons_of_mem _ (List.mem_of_mem_drop hu), hb⟩
       obtain ⟨q1, q2, q3⟩ := g.W.merge (w' := w) (is := [ai]) (o := .nst ⟨s.fl, s.e, s.t, s.xs.drop i⟩) (x := .tuple (v' :: vs.drop i).toArray) rfl (fun b hb hx => by
         obtain ⟨u, hu, hbu⟩ := blk_tuple.1 hx
         exact ⟨ai, by simp, _, _, hob, rfl, ‹β[ai]? = _›, hsub u hu b hbu⟩) rfl rfl rfl (Nat.le_refl _) (fun _ _ _ => rfl) (fun hm => by
         refine ⟨v', vs.drop i, rfl, by rw [List.length_drop, hl1]; simp, hs1, hoff, hi1.drop i, fun hfl b hb => ?_, ?_⟩
         ·obtain ⟨u, hu, hbu⟩ := blk_tuple.1 hb
          exact hf1 hfl b (hsub u hu b hbu)
         ·refine Dist.cons (fun p q u z b hu hz hbu hbz => ?_) fun u hu b hbu hb1 => hd1.head u (List.mem_of_mem_drop hu) b hbu (hvb b hb1)
          rw [List.getElem?_drop] at hu hz
          have := hd1.tail _ _ u z b hu hz hbu hbz
          omega)
       refine wp_value hrun ⟨_, _, _, _, hK, rfl, ⟨q1, g.A.mono q2 fun _ _ h => get_snoc h, .nst _ _ (vs.drop i) ?_⟩, .refl _, q3.mono (Nat.zero_le _)⟩
       show (β ++ [_])[σ.ob.length]? = some _
       rw [← g.W.len]
       simp
     ·cases h
    ·cases h
   ·cases h
  ·cases h
 ·cases h

end Go.Ev
