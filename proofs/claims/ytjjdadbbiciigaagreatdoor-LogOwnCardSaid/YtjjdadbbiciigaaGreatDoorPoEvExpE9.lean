/- text.Export: what it answers. -/
import Derived.Test.YtjjdadbbiciigaaGreatDoorPoEvExpD9
namespace Go.Ev
open Go.Proofs Go.Shelf Go.RowKit Go.Lib
set_option maxRecDepth 1000000
set_option linter.unusedVariables false
set_option linter.unusedSimpArgs false
set_option linter.unusedSectionVars false

set_option maxHeartbeats 4000000 in
theorem x_export0 (k K O N i e : Int) (he : e ≠ 0) (w : World) (A B : Option Addr) (n1 n2 cn co : Nat)
    (hck : ∀ w1, Below w.heap.size w w1 -> Calls Tryz.prog 53 #[.agg #[.int .i64 k, .int .i64 K, .int .i64 O, .int .i64 N, .slice A n1 cn, .slice B n2 co]] w1 fun e' w2 => e' = .returned (.tuple #[.int .i64 i, .int .i64 e]) ∧ Below w1.heap.size w1 w2) :
    Calls Tryz.prog 151 #[.agg #[.int .i64 k, .int .i64 K, .int .i64 O, .int .i64 N, .slice A n1 cn, .slice B n2 co]] w fun e' w' => e' = .returned (.tuple #[.slice none 0 0, .int .i64 e]) ∧ Below w.heap.size w w' := by
  go_enter Tryz.func151, Tryz.ntmps151
  go_wp2_with (go_at_call 53; refine (hck _ ((Below.refl _ w).alloc (Nat.le_refl _) _)).mono ?_; rintro e' w2 ⟨rfl, b2⟩; refine Hid.out ?_)
  refine Lib.hid ?_
  go_wp2
  go_ret2
  exact ⟨rfl, ((Below.refl _ w).alloc (Nat.le_refl _) _).trans (below_weak b2 (by simp))⟩

variable [TabG] [TabsHold Tryz.prog]

theorem below_same {w w' : World} (h : Below w.heap.size w w') : Same w w' := ⟨h.os, h.tape, h.output, h.size, fun b hb => h.block b hb⟩

theorem rep_agg {w : World} {ok : Bool -> Nat -> Prop} {β : List Value} {l : List AV} {v : Value} (h : RepV w ok β (.agg l) v) : ∃ vs : List Value, v = .agg vs.toArray ∧ RepL w ok β l vs := by
  cases h with
  | agg _ vs hl h => exact ⟨vs, rfl, hl, h⟩

theorem rep_tup {w : World} {ok : Bool -> Nat -> Prop} {β : List Value} {l : List AV} {v : Value} (h : RepV w ok β (.tup l) v) : ∃ vs : List Value, v = .tuple vs.toArray ∧ RepL w ok β l vs := by
  cases h with
  | tup _ vs hl h => exact ⟨vs, rfl, hl, h⟩

theorem rep_rd {w : World} {ok : Bool -> Nat -> Prop} {β : List Value} {s : Sq} {v : Value} (h : RepV w ok β (.rd s) v) : ∃ A c, v = .slice A s.xs.length c ∧ s.xs.length ≤ c ∧ RowR w (ok s.fl) s.t s.xs A := by
  cases h with
  | rd _ A c hc hrow => exact ⟨A, c, rfl, hc, hrow⟩

theorem RepL.six {w : World} {ok : Bool -> Nat -> Prop} {β : List Value} {a b c d e f : AV} {vs : List Value} (h : RepL w ok β [a, b, c, d, e, f] vs) :
    ∃ a' b' c' d' e' f', vs = [a', b', c', d', e', f'] ∧ RepV w ok β a a' ∧ RepV w ok β b b' ∧ RepV w ok β c c' ∧ RepV w ok β d d' ∧ RepV w ok β e e' ∧ RepV w ok β f f' := by
  obtain ⟨hl, h⟩ := h
  match vs, hl with
  | [a', b', c', d', e', f'], _ => exact ⟨a', b', c', d', e', f', rfl, h 0 _ _ rfl rfl, h 1 _ _ rfl rfl, h 2 _ _ rfl rfl, h 3 _ _ rfl rfl, h 4 _ _ rfl rfl, h 5 _ _ rfl rfl⟩

theorem RepL.two {w : World} {ok : Bool -> Nat -> Prop} {β : List Value} {a b : AV} {vs : List Value} (h : RepL w ok β [a, b] vs) :
    ∃ a' b', vs = [a', b'] ∧ RepV w ok β a a' ∧ RepV w ok β b b' := by
  obtain ⟨hl, h⟩ := h
  match vs, hl with
  | [a', b'], _ => exact ⟨a', b', rfl, h 0 _ _ rfl rfl, h 1 _ _ rfl rfl⟩

theorem row_read {w : World} {ok : Nat -> Prop} {xs : List Int} {A : Option Addr} (h : RowR w ok (.int .i64) xs A) (h0 : 0 < xs.length) :
    ∃ a, A = some a ∧ ∀ j, j < xs.length -> w.cell? (a.add j) = some (.int .i64 (xs.getD j 0)) := by
  obtain ⟨a, rfl, _, hc⟩ := h h0
  refine ⟨a, rfl, fun j hj => ?_⟩
  obtain ⟨cs, ⟨x, hx, hcel⟩, hcell⟩ := hc j hj
  have hcel : cs = [.int .i64 x] := hcel
  subst hcel
  have h1 := hcell 0 (.int .i64 x) rfl
  have h1 : w.cell? (a.add (j * 1 + 0)) = some (.int .i64 x) := h1
  rw [Nat.mul_one, Nat.add_zero] at h1
  rw [h1, List.getD_eq_getElem?_getD, hx]
  rfl

theorem check_calls {SC : Sum} (hs : Sound Tryz.prog 53 SC)
    (hrun : ∀ {R : Type} (k K O N : Int) (nx ou : List Int), short nx -> short ou -> ∀ KK : AV -> List Go.Ev.O -> Option R,
      SC.run [.agg [.v (.int .i64 k), .v (.int .i64 K), .v (.int .i64 O), .v (.int .i64 N), .rd ⟨false, 3, .int .i64, nx⟩, .rd ⟨false, 3, .int .i64, ou⟩]] [] KK = KK (.tup [.v (.int .i64 (checkS k K O N nx ou).1), .v (.int .i64 (checkS k K O N nx ou).2)]) [])
    (k K O N : Int) (nx ou : List Int) (h1 : okL nx) (h2 : okL ou) (w w1 : World) (hb : Below w.heap.size w w1) (htab : ∀ b o, TabG.blk b = some o -> b < w.heap.size ∧ w.heap[b]? = some o)
    (A B : Option Addr) (cn co : Nat) (hcn : nx.length ≤ cn) (hco : ou.length ≤ co) {ok ok' : Nat -> Prop} (rn : RowR w ok (.int .i64) nx A) (ro : RowR w ok' (.int .i64) ou B) :
    Calls Tryz.prog 53 #[.agg #[.int .i64 k, .int .i64 K, .int .i64 O, .int .i64 N, .slice A nx.length cn, .slice B ou.length co]] w1 fun e w2 =>
      e = .returned (.tuple #[.int .i64 (checkR k K O N nx ou).1, .int .i64 (checkR k K O N nx ou).2]) ∧ Below w1.heap.size w1 w2 := by
  have up : ∀ {xs : List Int} {A : Option Addr} {ok : Nat -> Prop}, RowR w ok (.int .i64) xs A -> RowR w1 (okB ⟨w1, fun _ => True, fun _ => False, [], fun _ _ h => h⟩ [] [] false) (.int .i64) xs A := fun {xs A ok} h =>
    h.mono fun b _ hlt => ⟨⟨fun hl => by obtain ⟨i, o, x, ho, _⟩ := hl; simp at ho, .inr ⟨rfl, .inl trivial⟩⟩, hb.block b hlt⟩
  have hW : WRep ⟨w1, fun _ => True, fun _ => False, [], fun _ _ h => h⟩ [] [] w1 :=
    { hs := Nat.le_refl _, keep := fun _ _ _ => rfl, os := rfl, tape := rfl, out := rfl, len := rfl, pre := fun _ _ h => h
      obj := fun i o x h => by simp at h
      sep := fun i j o o' x y b h => by simp at h
      own := fun i o x b h => by simp at h
      tab := fun b o hbo => by
        obtain ⟨t1, t2⟩ := htab b o hbo
        exact ⟨Nat.lt_of_lt_of_le t1 hb.size, fun h => h, by rw [hb.block b t1]; exact t2⟩ }
  let KK : AV -> List Go.Ev.O -> Option (Int × Int) := fun x ob' => match x, ob' with
    | .tup [.v (.int .i64 i), .v (.int .i64 e)], [] => some (i, e)
    | _, _ => none
  have hR := hs KK (checkS k K O N nx ou) _ [] (hrun k K O N nx ou h1.1 h2.1 KK) [.agg #[.int .i64 k, .int .i64 K, .int .i64 O, .int .i64 N, .slice A nx.length cn, .slice B ou.length co]] w1 [] (fun _ => True) (fun _ => False) (fun _ _ h => h) hW ⟨rfl, fun i x y hx hy => by
    cases i with
    | succ i => simp at hx
    | zero =>
      obtain rfl := Option.some.inj hx
      obtain rfl := Option.some.inj hy
      refine .agg _ [.int .i64 k, .int .i64 K, .int .i64 O, .int .i64 N, .slice A nx.length cn, .slice B ou.length co] rfl fun i x y hx hy => ?_
      match i with
      | 0 => obtain rfl := Option.some.inj hx; obtain rfl := Option.some.inj hy; exact .v _
      | 1 => obtain rfl := Option.some.inj hx; obtain rfl := Option.some.inj hy; exact .v _
      | 2 => obtain rfl := Option.some.inj hx; obtain rfl := Option.some.inj hy; exact .v _
      | 3 => obtain rfl := Option.some.inj hx; obtain rfl := Option.some.inj hy; exact .v _
      | 4 => obtain rfl := Option.some.inj hx; obtain rfl := Option.some.inj hy; exact .rd ⟨false, 3, .int .i64, nx⟩ A cn hcn (up rn)
      | 5 => obtain rfl := Option.some.inj hx; obtain rfl := Option.some.inj hy; exact .rd ⟨false, 3, .int .i64, ou⟩ B co hco (up ro)
      | i + 6 => simp at hx⟩
  refine hR.mono ?_
  rintro e w2 ⟨v, x, ob', β', rfl, hk, hW2, hv⟩
  have hx : x = .tup [.v (.int .i64 (checkS k K O N nx ou).1), .v (.int .i64 (checkS k K O N nx ou).2)] := by
    revert hk
    show (match x, ob' with
      | .tup [.v (.int .i64 i), .v (.int .i64 e)], [] => some (i, e)
      | _, _ => none) = _ -> _
    split
    · intro hk
      rw [← Option.some.inj hk]
    · intro hk
      cases hk
  subst hx
  obtain ⟨vs, rfl, hvs⟩ := rep_tup hv
  obtain ⟨a', b', rfl, ra, rb⟩ := hvs.two
  rw [rep_v ra, rep_v rb, checkS_eq h1 h2]
  exact ⟨rfl, hW2.os, hW2.tape, hW2.out, hW2.hs, fun b hb => hW2.keep b hb (fun h => h)⟩

theorem sound_export {SC : Sum} (hs : Sound Tryz.prog 53 SC)
    (hrun : ∀ {R : Type} (k K O N : Int) (nx ou : List Int), short nx -> short ou -> ∀ KK : AV -> List Go.Ev.O -> Option R,
      SC.run [.agg [.v (.int .i64 k), .v (.int .i64 K), .v (.int .i64 O), .v (.int .i64 N), .rd ⟨false, 3, .int .i64, nx⟩, .rd ⟨false, 3, .int .i64, ou⟩]] [] KK = KK (.tup [.v (.int .i64 (checkS k K O N nx ou).1), .v (.int .i64 (checkS k K O N nx ou).2)]) []) :
    Sound Tryz.prog 151 ⟨[], fun {R} args ob K => match args, ob with
      | [.agg [.v (.int .i64 k), .v (.int .i64 K'), .v (.int .i64 O), .v (.int .i64 N), .rd ⟨false, 3, .int .i64, nx⟩, .rd ⟨false, 3, .int .i64, ou⟩]], [] =>
        l_Export k K' O N nx ou (fun r0 r1 => K (.tup [.own 0, .v (.int .i64 r1)]) [.row ⟨true, 5, .int .u8, r0⟩])
      | _, _ => none⟩ := by
  intro R K r args ob h vals w β rho pb disj hW hr
  dsimp only at h
  split at h
  · rename_i k K' O N nx ou
    obtain ⟨hl, hc⟩ := hr
    obtain ⟨v0, rfl⟩ : ∃ v0, vals = [v0] := by
      match vals, hl with
      | [v0], _ => exact ⟨v0, rfl⟩
    obtain ⟨vs, rfl, hvs⟩ := rep_agg (hc 0 _ _ rfl rfl)
    obtain ⟨a', b', c', d', e', f', rfl, ra, rb, rc, rd, re, rf⟩ := hvs.six
    obtain ⟨A, cn, rfl, hcn, rn⟩ := rep_rd re
    obtain ⟨B, co, rfl, hco, ro⟩ := rep_rd rf
    obtain rfl := rep_v ra
    obtain rfl := rep_v rb
    obtain rfl := rep_v rc
    obtain rfl := rep_v rd
    unfold l_Export at h
    rcases bi_some h with ⟨hd, h'⟩ | ⟨_, h'⟩
    · clear h
      obtain ⟨h1, h2⟩ := of_decide_eq_true hd
      have hβ : β = [] := List.length_eq_zero_iff.1 hW.len
      subst hβ
      have hck := fun w1 hb => check_calls hs hrun k K' O N nx ou h1 h2 w w1 hb (fun b o hbo => ⟨(hW.tab b o hbo).1, (hW.tab b o hbo).2.2⟩) A B cn co hcn hco rn ro
      have hT : Lib.TabBelow Tryz.prog w.heap.size w "internal/strconv.uint64pow10" .u64 Lib.pow10Tab := Lib.tabBelow_of_tabIs (TabsHold.pow10 w fun b o hb => (hW.tab b o hb).2.2)
      have done : ∀ (v' : Value) (xs : List Int) (e : Int) (w' : World), w'.ownsRow w.heap.size 5 1 v' xs.length (cellsI xs) -> Below w.heap.size w w' -> K (.tup [.own 0, .v (.int .i64 e)]) [.row ⟨true, 5, .int .u8, xs⟩] = some r →
          ∃ v x ob' β', Ending.returned (.tuple #[v', .int .i64 e]) = .returned v ∧ K x ob' = some r ∧ WRep ⟨w, rho, pb, [], disj⟩ β' ob' w' ∧ RepV w' (okB ⟨w, rho, pb, [], disj⟩ β' ob') β' x v := by
        intro v' xs e w' hown hbel hk
        obtain ⟨hM, hB⟩ := ownsM_of hown
        refine ⟨_, .tup [.own 0, .v (.int .i64 e)], [] ++ [.row ⟨true, 5, .int .u8, xs⟩], [] ++ [v'], rfl, hk, WRep.new hW (below_same hbel) (fun _ b hb => hB b hb) ?_, .tup _ [v', .int .i64 e] rfl fun i x y hx hy => ?_⟩
        · refine ⟨_, hM, fun _ b hb => hB b hb, fun j y hy => ⟨[.int .u8 y], rfl, fun k u hu => ?_⟩⟩
          cases k with
          | succ k => simp at hu
          | zero =>
            obtain rfl := Option.some.inj hu
            have hy : xs[j]? = some y := hy
            show (cellsI xs)[j * 1 + 0]? = _
            rw [Nat.mul_one, Nat.add_zero]
            unfold cellsI
            rw [List.getElem?_map, hy]
            rfl
        · match i with
          | 0 => obtain rfl := Option.some.inj hx; obtain rfl := Option.some.inj hy; exact .own 0 _ rfl
          | 1 => obtain rfl := Option.some.inj hx; obtain rfl := Option.some.inj hy; exact .v _
          | i + 2 => simp at hx
      unfold exportS at h'
      by_cases he : (checkR k K' O N nx ou).2 = 0
      · rw [if_neg (by simpa using he)] at h'
        have F := checkR_fine.1 he
        have fK := F.fK
        have fN := F.fN
        have fnx := F.fnx
        have hNK : 1 ≤ N * K' := by
          have := Int.mul_le_mul (a := 1) (b := 1) (c := N) (d := K') fN.1 fK.1 (by omega) (by omega)
          omega
        obtain ⟨an, rfl, hn⟩ := row_read (xs := nx) rn (by omega)
        have hck' : ∀ w1, Below w.heap.size w w1 -> Calls Tryz.prog 53 #[.agg #[.int .i64 k, .int .i64 K', .int .i64 O, .int .i64 N, .slice (some an) nx.length cn, .slice B ou.length co]] w1 fun e w2 => ∃ i, e = .returned (.tuple #[.int .i64 i, .int .i64 0]) ∧ Below w1.heap.size w1 w2 := fun w1 hb => (hck w1 hb).mono fun e w2 h => by
          rw [he] at h
          exact ⟨_, h⟩
        rcases F.fk with rfl | rfl
        · have := F.fou1 rfl
          obtain ⟨ao, rfl, ho⟩ := row_read (xs := ou) ro (by omega)
          refine (x_export1 K' O N nx ou F w an ao cn co hn ho hck' hT).mono ?_
          rintro e w' ⟨v', rfl, hown, hbel⟩
          exact done v' _ _ w' hown hbel h'
        · have := F.fou2 rfl
          obtain ⟨ao, rfl, ho⟩ := row_read (xs := ou) ro (by omega)
          refine (x_export2 K' O N nx ou F w an ao cn co hn ho hck' hT).mono ?_
          rintro e w' ⟨v', rfl, hown, hbel⟩
          exact done v' _ _ w' hown hbel h'
      · rw [if_pos he] at h'
        refine (x_export0 k K' O N _ _ he w A B nx.length ou.length cn co hck).mono ?_
        rintro e w' ⟨rfl, hbel⟩
        exact done _ [] _ w' (World.ownsRow_nil _ _ _ _) hbel h'
    · cases h'
  · cases h

end Go.Ev
