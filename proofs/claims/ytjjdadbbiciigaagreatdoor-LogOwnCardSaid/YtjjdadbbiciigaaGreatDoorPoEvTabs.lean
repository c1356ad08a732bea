/- Summaries out of the library's contracts: what reads tables. -/
import Derived.Test.YtjjdadbbiciigaaGreatDoorPoEvFn
import Derived.Test.YtjjdadbbiciigaaGreatDoorPoEvItoa
import Derived.Shelf.Strconv.AppendIntPublic10
import Derived.Lib.LaidTab
namespace Go.Ev
open Go.Proofs Go.Shelf
set_option linter.unusedVariables false
set_option linter.unusedSimpArgs false
set_option linter.unusedSectionVars false

class TabsHold [TabG] (P : Program) : Prop where
 pow10 : ∀ w : World, (∀ b o, TabG.blk b = some o -> w.heap[b]? = some o) -> Lib.TabIs P w "internal/strconv.uint64pow10" .u64 Lib.pow10Tab

def setTab (cs : Array Value) : Obj -> Obj
 |.cells _ t frozen => .cells cs t frozen
 |o => o

abbrev tabG (W : World) (gs : List Nat) : TabG := ⟨fun b => if gs.contains b then W.heap[b]? else none⟩

theorem tabG_met (W : World) (gs : List Nat) : ∀ b o, (tabG W gs).blk b = some o -> b < W.heap.size ∧ W.heap[b]? = some o := by
 intro b o h
 unfold tabG at h
 dsimp only at h
 split at h
 ·exact ⟨(Array.getElem?_eq_some_iff.1 h).1, h⟩
 ·cases h

class CellHold [TabG] (a : Addr) (v : outParam Value) : Prop where
 cell : ∀ w : World, (∀ b o, TabG.blk b = some o -> w.heap[b]? = some o) -> w.cell? a = some v

theorem cell_hold {W : World} {gs : List Nat} {g : Nat} {v : Value} (h : W.cell? ⟨g, 0, none⟩ = some v) (hin : gs.contains g = true) : @CellHold (tabG W gs) ⟨g, 0, none⟩ v := by
 refine @CellHold.mk (tabG W gs) _ v fun w hw => ?_
 rw [← h]
 refine World.cell?_of_block ?_
 have hlt := World.block_lt_of_cell? W _ h
 have hq : (tabG W gs).blk g = some W.heap[g] := by
  unfold tabG
  dsimp only
  rw [if_pos hin]
  exact Array.getElem?_eq_getElem hlt
 rw [hw g _ hq]
 exact (Array.getElem?_eq_getElem hlt).symm

theorem tabs_of_mem {P : Program} {W : World} {name : String} {k : IntKind} {zs : List Int} {g : Nat} {t e : TypeId} {n : Nat}
  (hg : P.globalNamed name = some g) (hty : (P.globals[g]?).map (·.type) = some t) (ht : P.underlying t = some (.array n e)) (he : P.underlying e = some (.int k)) (hce : P.cellsOf e = 1) (hct : P.cellsOf t = n) :
  ∀ (laid : List (String × DataW Unit)) (ps : List MemPlace), DataW.LaidVars P W laid ps -> (name, Lib.tabData k zs) ∈ laid -> Lib.TabIs P W name k zs
 |[], _, _, hm => by simp at hm
 |(n', d) :: r, ps, h, hm => by
  obtain ⟨g', t', cs, fuel, p, q, hg', ht', hvar, hd, hr, _⟩ := h
  rcases List.mem_cons.1 hm with hm | hm
  ·obtain ⟨rfl, rfl⟩ := Prod.mk.inj hm
   obtain rfl := Option.some.inj (hg.symm.trans hg')
   obtain rfl := Option.some.inj (hty.symm.trans ht')
   unfold Lib.TabIs
   rw [hvar, ← Lib.cells_of_tab ht he hce hct hd]
  ·exact tabs_of_mem hg hty ht he hce hct r q hr hm

theorem tabs_hold {P : Program} {W : World} {gs : List Nat} {g : Nat} (hg : P.globalNamed "internal/strconv.uint64pow10" = some g) (h : Lib.TabIs P W "internal/strconv.uint64pow10" .u64 Lib.pow10Tab) (hin : gs.contains g = true) : @TabsHold (tabG W gs) P := by
 refine @TabsHold.mk (tabG W gs) P fun w hw => ?_
 unfold Lib.TabIs World.var? at h ⊢
 rw [hg] at h ⊢
 simp only [Option.bind_some] at h ⊢
 cases ho : W.heap[g]? with
 |none =>
  rw [ho] at h
  cases h
 |some o =>
  have := hw g o (by unfold tabG; dsimp only; rw [if_pos hin]; exact ho)
  rw [this, ← ho]
  exact h

variable [TabG] {P : Program} {ρ : Ren}

theorem ownsM_of {w : World} {B : Nat} {e : TypeId} {sz n : Nat} {v : Value} {xs : List Value} (h : w.ownsRow B e sz v n xs) : ownsM w e sz v n xs ∧ ∀ b, blk v b -> B ≤ b := by
 obtain ⟨h1, h2⟩ := h
 rcases h2 with ⟨rfl, h0⟩ | ⟨g, cap, cur, rfl, h3, h4, h5, h6, h7, h8⟩
 ·exact ⟨⟨h1, .inl ⟨rfl, h0⟩⟩, fun b hb => by simp [blk, blk1] at hb⟩
 ·exact ⟨⟨h1, .inr ⟨g, cap, cur, rfl, Nat.zero_le _, .of h4, h5, h6, h7, h8⟩⟩, fun b hb => by
   simp [blk, blk1] at hb
   omega⟩

theorem sound_AppendInt (L : LaysM.n176 P ρ) (htab : ∀ w : World, (∀ b o, TabG.blk b = some o -> w.heap[b]? = some o) -> Lib.TabIs P w "internal/strconv.uint64pow10" .u64 Lib.pow10Tab) :
  Sound P (ρ.f 176) ⟨[0], fun {R} args ob K => match args, ob with
   |[.v (.slice none 0 0), .v (.int .i64 n), .v (.int .i64 b)], [] => l_AppendInt n b (fun r0 => K (.own 0) [.row ⟨true, ρ.t 5, .int .u8, r0⟩])
   |_, _ => none⟩ := by
 intro R K r args ob h vals w β rho pb disj hW hr
 dsimp only at h
 split at h
 ·rename_i n b
  obtain ⟨hl, hc⟩ := hr
  obtain ⟨v0, v1, v2, rfl⟩ : ∃ v0 v1 v2, vals = [v0, v1, v2] := by
   match vals, hl with
   |[v0, v1, v2], _ => exact ⟨v0, v1, v2, rfl⟩
  have e0 := rep_v (hc 0 _ _ rfl rfl)
  have e1 := rep_v (hc 1 _ _ rfl rfl)
  have e2 := rep_v (hc 2 _ _ rfl rfl)
  subst e0 e1 e2
  unfold l_AppendInt at h
  rcases bi_some h with ⟨hd, h'⟩ | ⟨_, h'⟩
  ·clear h
   obtain ⟨rfl, h0, h1⟩ := of_decide_eq_true hd
   have hT : Lib.TabBelow P w.heap.size w "internal/strconv.uint64pow10" .u64 Lib.pow10Tab := Lib.tabBelow_of_tabIs (htab w fun b o hb => (hW.tab b o hb).2.2)
   refine (Any.strconv_AppendInt_10 L w.heap.size 0 n h0 h1 (.slice none 0 0) [] w (World.ownsRow_nil _ _ _ _) (Nat.le_refl _) (by omega) hT).mono ?_
   rintro e w' ⟨v', rfl, hown, hbel, _⟩
   have hβ : β = [] := List.length_eq_zero_iff.1 hW.len
   subst hβ
   have hs : Same w w' := ⟨hbel.os, hbel.tape, hbel.output, hbel.size, fun b hb => hbel.block b hb⟩
   obtain ⟨hM, hB⟩ := ownsM_of hown
   have hlen : (itoaI n).length = (Lib.itoa n).length := by simp [itoaI]
   refine ⟨v', .own 0, [] ++ [.row ⟨true, ρ.t 5, .int .u8, itoaI n⟩], [] ++ [v'], rfl, h', WRep.new hW hs (fun _ b hb => hB b hb) ?_, .own 0 _ rfl⟩
   refine ⟨_, by show ownsM w' (ρ.t 5) 1 v' (itoaI n).length _; rw [hlen]; simpa using hM, fun _ b hb => hB b hb, fun j y hy => ⟨[.int .u8 y], rfl, fun k u hu => ?_⟩⟩
   cases k with
   |succ k => simp at hu
   |zero =>
    obtain rfl := Option.some.inj hu
    have hy : (itoaI n)[j]? = some y := hy
    unfold itoaI at hy
    rw [List.getElem?_map] at hy
    show ([] ++ Lib.byteCells (Lib.itoa n))[j * 1 + 0]? = _
    rw [List.nil_append, Nat.mul_one, Nat.add_zero]
    unfold Lib.byteCells
    rw [List.getElem?_map]
    cases hq : (Lib.itoa n)[j]? with
    |none => rw [hq] at hy; cases hy
    |some q =>
     rw [hq] at hy
     obtain rfl := Option.some.inj hy
     rfl
  ·cases h'
 ·cases h

end Go.Ev
