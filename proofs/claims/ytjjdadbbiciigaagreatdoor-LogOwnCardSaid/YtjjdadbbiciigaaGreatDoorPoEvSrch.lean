/- Summaries out of the library's contracts: searches in bytes. -/
import Derived.Test.YtjjdadbbiciigaaGreatDoorPoEvTabs
import Derived.Shelf.Bytes.SlSplitNil
namespace Go.Ev
open Go.Proofs Go.Shelf
set_option linter.unusedVariables false
set_option linter.unusedSimpArgs false
set_option linter.unusedSectionVars false

class IntHold [TabG] (a : Addr) : Prop where
 cell : ∃ m : Int, ∀ w : World, (∀ b o, TabG.blk b = some o -> w.heap[b]? = some o) -> w.cell? a = some (.int .i64 m)

theorem int_hold {W : World} {gs : List Nat} {g : Nat} (h : ∃ m : Int, W.cell? ⟨g, 0, none⟩ = some (.int .i64 m)) (hin : gs.contains g = true) : @IntHold (tabG W gs) ⟨g, 0, none⟩ := by
 obtain ⟨m, hm⟩ := h
 exact @IntHold.mk (tabG W gs) _ ⟨m, (cell_hold hm hin).cell⟩

def srchOk (xs ys : List Int) : Prop := (xs.length < 4294967281 ∧ ys.length = 2) ∧ (∀ x ∈ xs, 0 ≤ x ∧ x < 256) ∧ (∀ y ∈ ys, 0 ≤ y ∧ y < 256)
instance (xs ys : List Int) : Decidable (srchOk xs ys) := by unfold srchOk; infer_instance

def l_bytesCount {R : Type} (xs ys : List Int) (K0 : Int -> Option R) : Option R := bi (decide (srchOk xs ys)) (K0 (Lib.count (Lib.bytesOf xs) (Lib.bytesOf ys) : Nat)) none
def l_bytesIndex {R : Type} (xs ys : List Int) (K0 : Int -> Option R) : Option R := bi (decide (0 < xs.length ∧ srchOk xs ys)) (K0 (Lib.index (Lib.bytesOf xs) (Lib.bytesOf ys))) none

variable [TabG] {P : Program} {ρ : Ren}

theorem byte_cells {w : World} {ok : Nat -> Prop} {xs : List Int} {a : Addr} (h : RowR w ok (.int .u8) xs (some a)) : ∀ i, i < xs.length -> w.cell? (a.add i) = some (.int .u8 (xs.getD i 0)) := by
 intro i hi
 obtain ⟨a', ha, _, hc⟩ := h (by omega)
 obtain rfl := Option.some.inj ha
 obtain ⟨cs, ⟨x, hx, hcel⟩, hcell⟩ := hc i hi
 have hcel : cs = [.int .u8 x] := hcel
 subst hcel
 have := hcell 0 (.int .u8 x) rfl
 rw [getD_of 0 hi]
 rw [List.getElem?_eq_getElem hi] at hx
 obtain rfl := Option.some.inj hx
 simpa [Ty.sz] using this

theorem Same.drewN (w : World) (q : Nat) : Same w (w.drewN q) := ⟨rfl, rfl, rfl, Nat.le_refl _, fun _ _ => rfl⟩

theorem sound_Index {g f : Nat} (L : SlLaysC.n13 P ρ) (hf : ρ.viaSlb.f 185 = f) (hG : ρ.viaSlb.g 1 = g) (hm : IntHold ⟨g, 0, none⟩) :
  Sound P f ⟨[], fun {R} args ob K => match args, ob with
   |[.rd ⟨false, _, .int .u8, xs⟩, .rd ⟨false, _, .int .u8, ys⟩], [] => l_bytesIndex xs ys (fun r0 => K (.v (.int .i64 r0)) [])
   |_, _ => none⟩ := by
 intro R K r args ob h vals w β rho pb disj hW hr
 dsimp only at h
 split at h
 ·rename_i ee xs ee' ys
  obtain ⟨hl, hc⟩ := hr
  obtain ⟨v0, v1, rfl⟩ : ∃ v0 v1, vals = [v0, v1] := by
   match vals, hl with
   |[v0, v1], _ => exact ⟨v0, v1, rfl⟩
  have e0 := hc 0 _ _ rfl rfl
  have e1 := hc 1 _ _ rfl rfl
  unfold l_bytesIndex at h
  rcases bi_some h with ⟨hd, h'⟩ | ⟨_, h'⟩
  ·clear h
   obtain ⟨h0, ⟨hn, hk⟩, hx, hy⟩ := of_decide_eq_true hd
   cases e0 with
   |rd _ A c hcap hrow =>
    cases e1 with
    |rd _ B d hcap2 hrow2 =>
     have hrow : RowR w _ (.int .u8) xs A := hrow
     have hrow2 : RowR w _ (.int .u8) ys B := hrow2
     obtain ⟨a, rfl, _, _⟩ := hrow h0
     obtain ⟨b, rfl, _, _⟩ := hrow2 (show 0 < ys.length by omega)
     obtain ⟨m, hm⟩ := hm.cell
     have hmw := hm w fun b o hb => (hW.tab b o hb).2.2
     have hβ : β = [] := List.length_eq_zero_iff.1 hW.len
     subst hβ
     subst hf
     have hI := Any.bytes_Index_at L.index a b xs.length c ys.length d xs ys m w rfl rfl hx hy (byte_cells hrow) (byte_cells hrow2) hcap hn (by omega) (by rw [hG]; exact hmw)
     refine hI.mono ?_
     rintro e w' ⟨rfl, q, rfl⟩
     exact ⟨_, .v _, [], [], rfl, h', hW.same (Same.drewN w q), .v _⟩
  ·cases h'
 ·cases h

def S_nilIndex : Sum := ⟨[], fun {R} args ob K => match args, ob with
 |[.rd ⟨false, _, .int .u8, []⟩, .rd ⟨false, _, .int .u8, [_, _]⟩], [] => K (.v (.int .i64 (-1))) []
 |_, _ => none⟩
def S_nilCount : Sum := ⟨[], fun {R} args ob K => match args, ob with
 |[.rd ⟨false, _, .int .u8, []⟩, .rd ⟨false, _, .int .u8, [_, _]⟩], [] => K (.v (.int .i64 0)) []
 |_, _ => none⟩

theorem sound_Count {g f : Nat} (L : SlLaysC.n13 P ρ) (hg : ρ.g 0 = g) (hf : ρ.f 13 = f) (hm : IntHold ⟨g, 0, none⟩) (hnil : Sound P f S_nilCount) :
  Sound P f ⟨[], fun {R} args ob K => match args, ob with
   |[.rd ⟨false, _, .int .u8, xs⟩, .rd ⟨false, _, .int .u8, ys⟩], [] => l_bytesCount xs ys (fun r0 => K (.v (.int .i64 r0)) [])
   |_, _ => none⟩ := by
 intro R K r args ob h vals w β rho pb disj hW hr
 dsimp only at h
 split at h
 ·rename_i ee xs ee' ys
  obtain ⟨hl, hc⟩ := hr
  obtain ⟨v0, v1, rfl⟩ : ∃ v0 v1, vals = [v0, v1] := by
   match vals, hl with
   |[v0, v1], _ => exact ⟨v0, v1, rfl⟩
  have e0 := hc 0 _ _ rfl rfl
  have e1 := hc 1 _ _ rfl rfl
  unfold l_bytesCount at h
  rcases bi_some h with ⟨hd, h'⟩ | ⟨_, h'⟩
  ·clear h
   obtain ⟨⟨hn, hk⟩, hx, hy⟩ := of_decide_eq_true hd
   have e0' := e0
   have e1' := e1
   cases e0 with
   |rd _ A c hcap hrow =>
    cases e1 with
    |rd _ B d hcap2 hrow2 =>
     have hrow : RowR w _ (.int .u8) xs A := hrow
     have hrow2 : RowR w _ (.int .u8) ys B := hrow2
     have hβ : β = [] := List.length_eq_zero_iff.1 hW.len
     subst hβ
     cases A with
     |none =>
      have h0 : xs = [] := by
       rcases List.eq_nil_or_concat xs with h | ⟨l, b, rfl⟩
       ·exact h
       ·obtain ⟨a, ha, _⟩ := hrow (by simp)
        cases ha
      subst h0
      obtain ⟨y0, y1, rfl⟩ : ∃ y0 y1, ys = [y0, y1] := by
       match ys, hk with
       |[y0, y1], _ => exact ⟨y0, y1, rfl⟩
      refine hnil K r [.rd ⟨false, ee, .int .u8, []⟩, .rd ⟨false, ee', .int .u8, [y0, y1]⟩] [] ?_ _ w [] rho pb disj hW ⟨rfl, fun i x y hx hy => ?_⟩
      ·exact h'
      ·match i, hx, hy with
       |0, hx, hy =>
        obtain rfl := Option.some.inj hx
        obtain rfl := Option.some.inj hy
        exact e0'
       |1, hx, hy =>
        obtain rfl := Option.some.inj hx
        obtain rfl := Option.some.inj hy
        exact e1'
     |some a =>
      obtain ⟨b, rfl, _, _⟩ := hrow2 (show 0 < ys.length by omega)
      obtain ⟨m, hm⟩ := hm.cell
      have hmw := hm w fun b o hb => (hW.tab b o hb).2.2
      subst hf
      have hI := Any.bytes_Count_any L a b xs.length c ys.length d xs ys m w rfl rfl hx hy (byte_cells hrow) (byte_cells hrow2) hcap hn (by omega) (by omega) (by rw [hg]; exact hmw)
      refine hI.mono ?_
      rintro e w' ⟨rfl, q, rfl⟩
      exact ⟨_, .v _, [], [], rfl, h', hW.same (Same.drewN w q), .v _⟩
  ·cases h'
 ·cases h

end Go.Ev
