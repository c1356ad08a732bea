/- Each function of the program is its tree. -/
import Derived.Test.YtbgggblbkknaoaaDoorProg
import Derived.Test.YtbgggblbkknaoaaDoorEvFn
import Derived.Test.YtbgggblbkknaoaaDoorEvTabs
import Derived.Test.YtbgggblbkknaoaaDoorEvLay8
import Derived.Test.YtbgggblbkknaoaaDoorEvExpA
import Derived.Test.YtbgggblbkknaoaaDoorEvExpB
import Derived.Test.YtbgggblbkknaoaaDoorEvExpC
import Derived.Test.YtbgggblbkknaoaaDoorEvExpD
import Derived.Test.YtbgggblbkknaoaaDoorEvExpE
import Derived.Test.YtbgggblbkknaoaaDoorEvAs8
import Derived.Test.YtbgggblbkknaoaaDoorEvAsE
import Derived.Test.YtbgggblbkknaoaaDoorTextImportsPure
namespace Go.Ev
open Go.Proofs
noncomputable section
set_option linter.unusedVariables false
set_option linter.unusedSimpArgs false
set_option maxRecDepth 100000
set_option maxHeartbeats 4000000

variable [TabG] [TabsHold Tryd.prog] [CellHold ⟨0, 0, none⟩ (.iface 130 (.agg #[.pointer (some ⟨5, 63, none⟩)]))]
set_option linter.unusedSectionVars false

theorem wide : Tables.follows Tryd.prog.toTables .mixedOrders = true := by kernel_rfl

def G0 : FuncId → Option Sum := fun _ => none
theorem right_G0 : Right Tryd.prog G0 := fun f S h => by cases h

def T_machine_says : FuncId → Option Sum := G0

theorem right_T_machine_says : Right Tryd.prog T_machine_says := right_G0

abbrev cuts_machine_says : Cuts := []

theorem gentry_machine_says {R : Type} (K : AV → List O → Option R) (m m_1 m_2 m_3 : Int) (m_4 m_5 : List Int) :
    fnRun Tryd.prog T_machine_says cuts_machine_says Tryd.f64 0 [.agg [.v (.int .i64 m), .v (.int .i64 m_1), .v (.int .i64 m_2), .v (.int .i64 m_3), .rd ⟨false, 3, (.int .i64), m_4⟩, .rd ⟨false, 3, (.int .i64), m_5⟩]] [] K =
    (fun (m m_1 m_2 m_3 : Int) (m_4 m_5 : List Int) (K0 : Int → Option R) =>
    bi (m == 1)
     (K0 m_3)
     (K0 (IntKind.i64.wrap (m_3 * m_1)))) m m_1 m_2 m_3 m_4 m_5 (fun r0 => K (.v (.int .i64 r0)) []) := by kernel_rfl

def S_machine_says (l_machine_says : LT_machine_says) : Sum := ⟨[], fun {R} args ob K => match args, ob with
  | [.agg [.v (.int .i64 m), .v (.int .i64 m_1), .v (.int .i64 m_2), .v (.int .i64 m_3), .rd ⟨false, 3, (.int .i64), m_4⟩, .rd ⟨false, 3, (.int .i64), m_5⟩]], [] => l_machine_says m m_1 m_2 m_3 m_4 m_5 (fun r0 => K (.v (.int .i64 r0)) [])
  | _, _ => none⟩

theorem sound_machine_says : Sound Tryd.prog 64 (S_machine_says @l_machine_says) := by
  refine fn_sound (cuts := cuts_machine_says) (fn := Tryd.f64) (Γ := T_machine_says) wide right_T_machine_says Tryd.func64 fun {R} K r args ob h => ?_
  unfold S_machine_says at h
  dsimp only at h
  split at h
  · exact ⟨Nat.le_of_ble_eq_true (by kernel_rfl), 0, (gentry_machine_says K _ _ _ _ _ _).trans h⟩
  · cases h

theorem call_machine_says : Callable Tryd.prog 64 := ⟨_, Tryd.func64, by kernel_rfl, by kernel_rfl⟩

def T_machine_head (l_machine_says : LT_machine_says) : FuncId → Option Sum := (addS G0 64 (S_machine_says @l_machine_says))

theorem right_T_machine_head : Right Tryd.prog (T_machine_head @l_machine_says) := (right_add right_G0 call_machine_says sound_machine_says)

abbrev cuts_machine_head : Cuts := []

theorem gentry_machine_head (l_machine_says : LT_machine_says) {R : Type} (K : AV → List O → Option R) (m m_1 m_2 m_3 : Int) (m_4 m_5 : List Int) :
    fnRun Tryd.prog (T_machine_head @l_machine_says) cuts_machine_head Tryd.f45 0 [.agg [.v (.int .i64 m), .v (.int .i64 m_1), .v (.int .i64 m_2), .v (.int .i64 m_3), .rd ⟨false, 3, (.int .i64), m_4⟩, .rd ⟨false, 3, (.int .i64), m_5⟩]] [] K =
    (fun (m m_1 m_2 m_3 : Int) (m_4 m_5 : List Int) (K0 : Int → Option R) =>
    bi (m != 1)
     (bi (m != 2)
      (K0 30)
      (bi (decide (m_1 < 1))
       (K0 1)
       (bi (decide (m_1 > 64))
        (K0 1)
        (bi (m == 1)
         (bi (m_2 != 2)
          (K0 33)
          (bi (decide (m_2 < 1))
           (K0 33)
           (bi (decide (m_2 > 64))
            (K0 33)
            (bi (decide (m_3 < 1))
             (K0 3)
             (bi (decide (m_3 > 1024))
              (K0 3)
              (bi ((m_4.length : Int) != (IntKind.i64.wrap (m_3 * m_1)))
               (K0 31)
               (l_machine_says m m_1 m_2 m_3 m_4 m_5
                (fun r1 =>
                 bi ((m_5.length : Int) != r1)
                  (K0 31)
                  (K0 0)))))))))
         (bi (decide (m_2 < 1))
          (K0 33)
          (bi (decide (m_2 > 64))
           (K0 33)
           (bi (decide (m_3 < 1))
            (K0 3)
            (bi (decide (m_3 > 1024))
             (K0 3)
             (bi ((m_4.length : Int) != (IntKind.i64.wrap (m_3 * m_1)))
              (K0 31)
              (l_machine_says m m_1 m_2 m_3 m_4 m_5
               (fun r2 =>
                bi ((m_5.length : Int) != r2)
                 (K0 31)
                 (K0 0))))))))))))
     (bi (decide (m_1 < 1))
      (K0 1)
      (bi (decide (m_1 > 64))
       (K0 1)
       (bi (m == 1)
        (bi (m_2 != 2)
         (K0 33)
         (bi (decide (m_2 < 1))
          (K0 33)
          (bi (decide (m_2 > 64))
           (K0 33)
           (bi (decide (m_3 < 1))
            (K0 3)
            (bi (decide (m_3 > 1024))
             (K0 3)
             (bi ((m_4.length : Int) != (IntKind.i64.wrap (m_3 * m_1)))
              (K0 31)
              (l_machine_says m m_1 m_2 m_3 m_4 m_5
               (fun r3 =>
                bi ((m_5.length : Int) != r3)
                 (K0 31)
                 (K0 0)))))))))
        (bi (decide (m_2 < 1))
         (K0 33)
         (bi (decide (m_2 > 64))
          (K0 33)
          (bi (decide (m_3 < 1))
           (K0 3)
           (bi (decide (m_3 > 1024))
            (K0 3)
            (bi ((m_4.length : Int) != (IntKind.i64.wrap (m_3 * m_1)))
             (K0 31)
             (l_machine_says m m_1 m_2 m_3 m_4 m_5
              (fun r4 =>
               bi ((m_5.length : Int) != r4)
                (K0 31)
                (K0 0)))))))))))) m m_1 m_2 m_3 m_4 m_5 (fun r0 => K (.v (.int .i64 r0)) []) := by kernel_rfl

def S_machine_head (l_machine_head : LT_machine_head) : Sum := ⟨[], fun {R} args ob K => match args, ob with
  | [.agg [.v (.int .i64 m), .v (.int .i64 m_1), .v (.int .i64 m_2), .v (.int .i64 m_3), .rd ⟨false, 3, (.int .i64), m_4⟩, .rd ⟨false, 3, (.int .i64), m_5⟩]], [] => l_machine_head m m_1 m_2 m_3 m_4 m_5 (fun r0 => K (.v (.int .i64 r0)) [])
  | _, _ => none⟩

theorem sound_machine_head : Sound Tryd.prog 45 (S_machine_head @l_machine_head) := by
  refine fn_sound (cuts := cuts_machine_head) (fn := Tryd.f45) (Γ := (T_machine_head @l_machine_says)) wide right_T_machine_head Tryd.func45 fun {R} K r args ob h => ?_
  unfold S_machine_head at h
  dsimp only at h
  split at h
  · exact ⟨Nat.le_of_ble_eq_true (by kernel_rfl), 0, (gentry_machine_head @l_machine_says K _ _ _ _ _ _).trans h⟩
  · cases h

theorem call_machine_head : Callable Tryd.prog 45 := ⟨_, Tryd.func45, by kernel_rfl, by kernel_rfl⟩

def T_machine_beyond : FuncId → Option Sum := G0

theorem right_T_machine_beyond : Right Tryd.prog T_machine_beyond := right_G0

abbrev cuts_machine_beyond : Cuts := [(2, [0, 1, 7, 8])]

abbrev sta_machine_beyond_2 (l : List Int) (n x7 x8 : Int) : St := ⟨fr0 21 [(0, .rd ⟨false, 3, (.int .i64), l⟩), (1, .v (.int .i64 n)), (7, .v (.int .i64 x7)), (8, .v (.int .i64 x8))], []⟩

abbrev gt_machine_beyond_2 {R : Type} (g : List Item → St → Option R) : GT_machine_beyond_2 R := fun (l : List Int) (n x7 x8 : Int) => g (at' Tryd.f46 2) (sta_machine_beyond_2 l n x7 x8)

theorem gstep_machine_beyond_2 {R : Type} (g : List Item → St → Option R) (K : AV → List O → Option R) (l : List Int) (n x7 x8 : Int) :
    runSeg Tryd.prog T_machine_beyond cuts_machine_beyond 0 g (finish Tryd.prog Tryd.f46 0 K) (at' Tryd.f46 2) (sta_machine_beyond_2 l n x7 x8) =
    (fun (g46_2 : GT_machine_beyond_2 R) (K0 : Int → Option R) (l : List Int) (n x7 x8 : Int) =>
    bi (decide (x8 < x7))
     (bi (decide (0 ≤ x8 ∧ x8 < ((l.length : Nat) : Int)))
      (bi (decide ((IntKind.u64.wrap (l.getD x8.toNat 0)) ≥ (IntKind.u64.wrap n)))
       (K0 x8)
       (g46_2 l n x7 (IntKind.i64.wrap (x8 + 1))))
      none)
     (K0 (-1))) (gt_machine_beyond_2 g) (fun r0 => K (.v (.int .i64 r0)) []) l n x7 x8 := by kernel_rfl

theorem gentry_machine_beyond {R : Type} (fuel : Nat) (K : AV → List O → Option R) (l : List Int) (n : Int) :
    fnRun Tryd.prog T_machine_beyond cuts_machine_beyond Tryd.f46 fuel [.rd ⟨false, 3, (.int .i64), l⟩, .v (.int .i64 n)] [] K =
    (fun (g46_2 : GT_machine_beyond_2 R) (K0 : Int → Option R) (l : List Int) (n : Int) =>
    g46_2 l n (l.length : Int) 0) (gt_machine_beyond_2 (runO Tryd.prog T_machine_beyond cuts_machine_beyond 0 (finish Tryd.prog Tryd.f46 0 K) fuel)) (fun r0 => K (.v (.int .i64 r0)) []) l n := by kernel_rfl

theorem runs_machine_beyond {R : Type} (K : AV → List O → Option R) : ∀ fuel : Nat,
    (gt_machine_beyond_2 (runO Tryd.prog T_machine_beyond cuts_machine_beyond 0 (finish Tryd.prog Tryd.f46 0 K) fuel)) = (run_machine_beyond (fun r0 => K (.v (.int .i64 r0)) []) fuel)
  | 0 => rfl
  | fuel + 1 => by
    have ih := runs_machine_beyond K fuel
    funext l n x7 x8
    refine (gstep_machine_beyond_2 _ K l n x7 x8).trans ?_
    rw [ih]
    rfl

def S_machine_beyond (l_machine_beyond : LT_machine_beyond) : Sum := ⟨[], fun {R} args ob K => match args, ob with
  | [.rd ⟨false, 3, (.int .i64), l⟩, .v (.int .i64 n)], [] => l_machine_beyond l n (fun r0 => K (.v (.int .i64 r0)) [])
  | _, _ => none⟩

theorem sound_machine_beyond : Sound Tryd.prog 46 (S_machine_beyond @l_machine_beyond) := by
  refine fn_sound (cuts := cuts_machine_beyond) (fn := Tryd.f46) (Γ := T_machine_beyond) wide right_T_machine_beyond Tryd.func46 fun {R} K r args ob h => ?_
  unfold S_machine_beyond at h
  dsimp only at h
  split at h
  · obtain ⟨n, hn⟩ := ok_machine_beyond _ _ _ h
    refine ⟨Nat.le_of_ble_eq_true (by kernel_rfl), n, (gentry_machine_beyond n K _ _).trans ?_⟩
    rw [(runs_machine_beyond K n)]
    exact hn
  · cases h

theorem call_machine_beyond : Callable Tryd.prog 46 := ⟨_, Tryd.func46, by kernel_rfl, by kernel_rfl⟩

def T_machine_Check (l_machine_beyond : LT_machine_beyond) (l_machine_head : LT_machine_head) : FuncId → Option Sum := (addS (addS G0 46 (S_machine_beyond @l_machine_beyond)) 45 (S_machine_head @l_machine_head))

theorem right_T_machine_Check : Right Tryd.prog (T_machine_Check @l_machine_beyond @l_machine_head) := (right_add (right_add right_G0 call_machine_beyond sound_machine_beyond) call_machine_head sound_machine_head)

abbrev cuts_machine_Check : Cuts := []

theorem gentry_machine_Check (l_machine_beyond : LT_machine_beyond) (l_machine_head : LT_machine_head) {R : Type} (K : AV → List O → Option R) (m m_1 m_2 m_3 : Int) (m_4 m_5 : List Int) :
    fnRun Tryd.prog (T_machine_Check @l_machine_beyond @l_machine_head) cuts_machine_Check Tryd.f29 0 [.agg [.v (.int .i64 m), .v (.int .i64 m_1), .v (.int .i64 m_2), .v (.int .i64 m_3), .rd ⟨false, 3, (.int .i64), m_4⟩, .rd ⟨false, 3, (.int .i64), m_5⟩]] [] K =
    (fun (m m_1 m_2 m_3 : Int) (m_4 m_5 : List Int) (K0 : Int → Int → Option R) =>
    l_machine_head m m_1 m_2 m_3 m_4 m_5
     (fun r1 =>
      bi (r1 != 0)
       (K0 0 r1)
       (l_machine_beyond m_4 m_3
        (fun r2 =>
         bi (decide (r2 ≥ 0))
          (K0 r2 32)
          (l_machine_beyond m_5 m_2
           (fun r3 =>
            bi (decide (r3 ≥ 0))
             (K0 r3 33)
             (K0 0 0))))))) m m_1 m_2 m_3 m_4 m_5 (fun r0 r1 => K (.tup [.v (.int .i64 r0), .v (.int .i64 r1)]) []) := by kernel_rfl

def S_machine_Check (l_machine_Check : LT_machine_Check) : Sum := ⟨[], fun {R} args ob K => match args, ob with
  | [.agg [.v (.int .i64 m), .v (.int .i64 m_1), .v (.int .i64 m_2), .v (.int .i64 m_3), .rd ⟨false, 3, (.int .i64), m_4⟩, .rd ⟨false, 3, (.int .i64), m_5⟩]], [] => l_machine_Check m m_1 m_2 m_3 m_4 m_5 (fun r0 r1 => K (.tup [.v (.int .i64 r0), .v (.int .i64 r1)]) [])
  | _, _ => none⟩

theorem sound_machine_Check : Sound Tryd.prog 29 (S_machine_Check @l_machine_Check) := by
  refine fn_sound (cuts := cuts_machine_Check) (fn := Tryd.f29) (Γ := (T_machine_Check @l_machine_beyond @l_machine_head)) wide right_T_machine_Check Tryd.func29 fun {R} K r args ob h => ?_
  unfold S_machine_Check at h
  dsimp only at h
  split at h
  · exact ⟨Nat.le_of_ble_eq_true (by kernel_rfl), 0, (gentry_machine_Check @l_machine_beyond @l_machine_head K _ _ _ _ _ _).trans h⟩
  · cases h

theorem call_machine_Check : Callable Tryd.prog 29 := ⟨_, Tryd.func29, by kernel_rfl, by kernel_rfl⟩


def S_text_Export (l_text_Export : LT_text_Export) : Sum := ⟨[], fun {R} args ob K => match args, ob with
  | [.agg [.v (.int .i64 m), .v (.int .i64 m_1), .v (.int .i64 m_2), .v (.int .i64 m_3), .rd ⟨false, 3, (.int .i64), m_4⟩, .rd ⟨false, 3, (.int .i64), m_5⟩]], [] => l_text_Export m m_1 m_2 m_3 m_4 m_5 (fun r0 r1 => K (.tup [.own 0, .v (.int .i64 r0)]) [.row ⟨true, 5, (.int .u8), r1⟩])
  | _, _ => none⟩

theorem sound_text_Export : Sound Tryd.prog 14 (S_text_Export @l_text_Export) := sound_export sound_machine_Check (fun k K O N nx ou h1 h2 KK => check_eq k K O N nx ou h1 h2 (fun r0 r1 => KK (.tup [.v (.int .i64 r0), .v (.int .i64 r1)]) []))

theorem call_text_Export : Callable Tryd.prog 14 := ⟨_, Tryd.func14, by kernel_rfl, by kernel_rfl⟩

def T_text_reader_want : FuncId → Option Sum := G0

theorem right_T_text_reader_want : Right Tryd.prog T_text_reader_want := right_G0

abbrev cuts_text_reader_want_none : Cuts := [(1, [0, 1, 4])]

abbrev sta_text_reader_want_none_1 (s : ByteArray) (i : Int) (o0 : List Int) (o0_1 : Int) : St := ⟨fr0 61 [(0, .ptr 0 0), (1, .v (.string s)), (4, .v (.int .i64 i))], [.box 77 [.rd ⟨false, 5, (.int .u8), o0⟩, .v (.int .i64 o0_1), .v (.nilIface)]]⟩

abbrev gt_text_reader_want_none_1 {R : Type} (g : List Item → St → Option R) : GT_text_reader_want_none_1 R := fun (s : ByteArray) (i : Int) (o0 : List Int) (o0_1 : Int) => g (at' Tryd.f50 1) (sta_text_reader_want_none_1 s i o0 o0_1)

theorem gstep_text_reader_want_none_1 {R : Type} (g : List Item → St → Option R) (K : AV → List O → Option R) (s : ByteArray) (i : Int) (o0 : List Int) (o0_1 : Int) :
    runSeg Tryd.prog T_text_reader_want cuts_text_reader_want_none 1 g (finish Tryd.prog Tryd.f50 1 K) (at' Tryd.f50 1) (sta_text_reader_want_none_1 s i o0 o0_1) =
    (fun (g50_1 : GT_text_reader_want_none_1 R) (K0 : (List Int) → Int → Int → Int → Option R) (K1 : (List Int) → Int → Option R) (s : ByteArray) (i : Int) (o0 : List Int) (o0_1 : Int) =>
    bi (decide (i < (s.size : Int)))
     (bi (o0_1 == (o0.length : Int))
      (K0 o0 o0_1 6 o0_1)
      (bi (decide (0 ≤ o0_1 ∧ o0_1 < ((o0.length : Nat) : Int)))
       (bi (decide (0 ≤ i ∧ i < ((s.size : Nat) : Int)))
        (bi ((o0.getD o0_1.toNat 0) != ((s.data.toList.getD i.toNat 0).toNat : Int))
         (K0 o0 o0_1 6 o0_1)
         (g50_1 s (IntKind.i64.wrap (i + 1)) o0 (IntKind.i64.wrap (o0_1 + 1))))
        none)
       none))
     (K1 o0 o0_1)) (gt_text_reader_want_none_1 g) (fun r0 r1 r2 r3 => K (.tup []) [.box 77 [.rd ⟨false, 5, (.int .u8), r0⟩, .v (.int .i64 r1), .ifc 79 (.ptr 1 0)], .box 83 [.v (.int .i64 r2), .v (.int .i64 r3)]]) (fun r0 r1 => K (.tup []) [.box 77 [.rd ⟨false, 5, (.int .u8), r0⟩, .v (.int .i64 r1), .v (.nilIface)]]) s i o0 o0_1 := by kernel_rfl

theorem gentry_text_reader_want_none {R : Type} (fuel : Nat) (K : AV → List O → Option R) (s : ByteArray) (o0 : List Int) (o0_1 : Int) :
    fnRun Tryd.prog T_text_reader_want cuts_text_reader_want_none Tryd.f50 fuel [.ptr 0 0, .v (.string s)] [.box 77 [.rd ⟨false, 5, (.int .u8), o0⟩, .v (.int .i64 o0_1), .v (.nilIface)]] K =
    (fun (g50_1 : GT_text_reader_want_none_1 R) (K0 : (List Int) → Int → Int → Int → Option R) (K1 : (List Int) → Int → Option R) (s : ByteArray) (o0 : List Int) (o0_1 : Int) =>
    g50_1 s 0 o0 o0_1) (gt_text_reader_want_none_1 (runO Tryd.prog T_text_reader_want cuts_text_reader_want_none 1 (finish Tryd.prog Tryd.f50 1 K) fuel)) (fun r0 r1 r2 r3 => K (.tup []) [.box 77 [.rd ⟨false, 5, (.int .u8), r0⟩, .v (.int .i64 r1), .ifc 79 (.ptr 1 0)], .box 83 [.v (.int .i64 r2), .v (.int .i64 r3)]]) (fun r0 r1 => K (.tup []) [.box 77 [.rd ⟨false, 5, (.int .u8), r0⟩, .v (.int .i64 r1), .v (.nilIface)]]) s o0 o0_1 := by kernel_rfl

theorem runs_text_reader_want_none {R : Type} (K : AV → List O → Option R) : ∀ fuel : Nat,
    (gt_text_reader_want_none_1 (runO Tryd.prog T_text_reader_want cuts_text_reader_want_none 1 (finish Tryd.prog Tryd.f50 1 K) fuel)) = (run_text_reader_want_none (fun r0 r1 r2 r3 => K (.tup []) [.box 77 [.rd ⟨false, 5, (.int .u8), r0⟩, .v (.int .i64 r1), .ifc 79 (.ptr 1 0)], .box 83 [.v (.int .i64 r2), .v (.int .i64 r3)]]) (fun r0 r1 => K (.tup []) [.box 77 [.rd ⟨false, 5, (.int .u8), r0⟩, .v (.int .i64 r1), .v (.nilIface)]]) fuel)
  | 0 => rfl
  | fuel + 1 => by
    have ih := runs_text_reader_want_none K fuel
    funext s i o0 o0_1
    refine (gstep_text_reader_want_none_1 _ K s i o0 o0_1).trans ?_
    rw [ih]
    rfl

abbrev cuts_text_reader_want_fault : Cuts := [(1, [0, 1, 4])]

abbrev sta_text_reader_want_fault_1 (s : ByteArray) (i : Int) (o0 : List Int) (o0_1 o1 o1_1 : Int) : St := ⟨fr0 61 [(0, .ptr 0 0), (1, .v (.string s)), (4, .v (.int .i64 i))], [.box 77 [.rd ⟨false, 5, (.int .u8), o0⟩, .v (.int .i64 o0_1), .ifc 79 (.ptr 1 0)], .box 83 [.v (.int .i64 o1), .v (.int .i64 o1_1)]]⟩

abbrev gt_text_reader_want_fault_1 {R : Type} (g : List Item → St → Option R) : GT_text_reader_want_fault_1 R := fun (s : ByteArray) (i : Int) (o0 : List Int) (o0_1 o1 o1_1 : Int) => g (at' Tryd.f50 1) (sta_text_reader_want_fault_1 s i o0 o0_1 o1 o1_1)

theorem gstep_text_reader_want_fault_1 {R : Type} (g : List Item → St → Option R) (K : AV → List O → Option R) (s : ByteArray) (i : Int) (o0 : List Int) (o0_1 o1 o1_1 : Int) :
    runSeg Tryd.prog T_text_reader_want cuts_text_reader_want_fault 2 g (finish Tryd.prog Tryd.f50 2 K) (at' Tryd.f50 1) (sta_text_reader_want_fault_1 s i o0 o0_1 o1 o1_1) =
    (fun (g50b_1 : GT_text_reader_want_fault_1 R) (K0 : (List Int) → Int → Int → Int → Option R) (s : ByteArray) (i : Int) (o0 : List Int) (o0_1 o1 o1_1 : Int) =>
    bi (decide (i < (s.size : Int)))
     (K0 o0 o0_1 o1 o1_1)
     (K0 o0 o0_1 o1 o1_1)) (gt_text_reader_want_fault_1 g) (fun r0 r1 r2 r3 => K (.tup []) [.box 77 [.rd ⟨false, 5, (.int .u8), r0⟩, .v (.int .i64 r1), .ifc 79 (.ptr 1 0)], .box 83 [.v (.int .i64 r2), .v (.int .i64 r3)]]) s i o0 o0_1 o1 o1_1 := by kernel_rfl

theorem gentry_text_reader_want_fault {R : Type} (fuel : Nat) (K : AV → List O → Option R) (s : ByteArray) (o0 : List Int) (o0_1 o1 o1_1 : Int) :
    fnRun Tryd.prog T_text_reader_want cuts_text_reader_want_fault Tryd.f50 fuel [.ptr 0 0, .v (.string s)] [.box 77 [.rd ⟨false, 5, (.int .u8), o0⟩, .v (.int .i64 o0_1), .ifc 79 (.ptr 1 0)], .box 83 [.v (.int .i64 o1), .v (.int .i64 o1_1)]] K =
    (fun (g50b_1 : GT_text_reader_want_fault_1 R) (K0 : (List Int) → Int → Int → Int → Option R) (s : ByteArray) (o0 : List Int) (o0_1 o1 o1_1 : Int) =>
    g50b_1 s 0 o0 o0_1 o1 o1_1) (gt_text_reader_want_fault_1 (runO Tryd.prog T_text_reader_want cuts_text_reader_want_fault 2 (finish Tryd.prog Tryd.f50 2 K) fuel)) (fun r0 r1 r2 r3 => K (.tup []) [.box 77 [.rd ⟨false, 5, (.int .u8), r0⟩, .v (.int .i64 r1), .ifc 79 (.ptr 1 0)], .box 83 [.v (.int .i64 r2), .v (.int .i64 r3)]]) s o0 o0_1 o1 o1_1 := by kernel_rfl

theorem runs_text_reader_want_fault {R : Type} (K : AV → List O → Option R) : ∀ fuel : Nat,
    (gt_text_reader_want_fault_1 (runO Tryd.prog T_text_reader_want cuts_text_reader_want_fault 2 (finish Tryd.prog Tryd.f50 2 K) fuel)) = (run_text_reader_want_fault (fun r0 r1 r2 r3 => K (.tup []) [.box 77 [.rd ⟨false, 5, (.int .u8), r0⟩, .v (.int .i64 r1), .ifc 79 (.ptr 1 0)], .box 83 [.v (.int .i64 r2), .v (.int .i64 r3)]]) fuel)
  | 0 => rfl
  | fuel + 1 => by
    have ih := runs_text_reader_want_fault K fuel
    funext s i o0 o0_1 o1 o1_1
    refine (gstep_text_reader_want_fault_1 _ K s i o0 o0_1 o1 o1_1).trans ?_
    rw [ih]
    rfl

def S_text_reader_want (l_text_reader_want_none : LT_text_reader_want_none) (l_text_reader_want_fault : LT_text_reader_want_fault) : Sum := ⟨[], fun {R} args ob K => match args, ob with
  | [.ptr 0 0, .v (.string s)], [.box 77 [.rd ⟨false, 5, (.int .u8), o0⟩, .v (.int .i64 o0_1), .v (.nilIface)]] => l_text_reader_want_none s o0 o0_1 (fun r0 r1 r2 r3 => K (.tup []) [.box 77 [.rd ⟨false, 5, (.int .u8), r0⟩, .v (.int .i64 r1), .ifc 79 (.ptr 1 0)], .box 83 [.v (.int .i64 r2), .v (.int .i64 r3)]]) (fun r0 r1 => K (.tup []) [.box 77 [.rd ⟨false, 5, (.int .u8), r0⟩, .v (.int .i64 r1), .v (.nilIface)]])
  | [.ptr 0 0, .v (.string s)], [.box 77 [.rd ⟨false, 5, (.int .u8), o0⟩, .v (.int .i64 o0_1), .ifc 79 (.ptr 1 0)], .box 83 [.v (.int .i64 o1), .v (.int .i64 o1_1)]] => l_text_reader_want_fault s o0 o0_1 o1 o1_1 (fun r0 r1 r2 r3 => K (.tup []) [.box 77 [.rd ⟨false, 5, (.int .u8), r0⟩, .v (.int .i64 r1), .ifc 79 (.ptr 1 0)], .box 83 [.v (.int .i64 r2), .v (.int .i64 r3)]])
  | _, _ => none⟩

theorem sound_text_reader_want : Sound Tryd.prog 50 (S_text_reader_want @l_text_reader_want_none @l_text_reader_want_fault) := by
  refine fn_sound (cuts := cuts_text_reader_want_none) (fn := Tryd.f50) (Γ := T_text_reader_want) wide right_T_text_reader_want Tryd.func50 fun {R} K r args ob h => ?_
  unfold S_text_reader_want at h
  dsimp only at h
  split at h
  · obtain ⟨n, hn⟩ := ok_text_reader_want_none _ _ _ _ _ h
    refine ⟨Nat.le_of_ble_eq_true (by kernel_rfl), n, (gentry_text_reader_want_none n K _ _ _).trans ?_⟩
    rw [(runs_text_reader_want_none K n)]
    exact hn
  · obtain ⟨n, hn⟩ := ok_text_reader_want_fault _ _ _ _ _ _ h
    refine ⟨Nat.le_of_ble_eq_true (by kernel_rfl), n, (gentry_text_reader_want_fault n K _ _ _ _ _).trans ?_⟩
    rw [(runs_text_reader_want_fault K n)]
    exact hn
  · cases h

theorem call_text_reader_want : Callable Tryd.prog 50 := ⟨_, Tryd.func50, by kernel_rfl, by kernel_rfl⟩

def T_text_Number : FuncId → Option Sum := G0

theorem right_T_text_Number : Right Tryd.prog T_text_Number := right_G0

abbrev cuts_text_Number : Cuts := [(4, [0, 1, 4, 7])]

abbrev sta_text_Number_4 (b : List Int) (vat n i : Int) : St := ⟨fr0 70 [(0, .rd ⟨false, 5, (.int .u8), b⟩), (1, .v (.int .i64 vat)), (4, .v (.int .i64 n)), (7, .v (.int .i64 i))], []⟩

abbrev gt_text_Number_4 {R : Type} (g : List Item → St → Option R) : GT_text_Number_4 R := fun (b : List Int) (vat n i : Int) => g (at' Tryd.f21 4) (sta_text_Number_4 b vat n i)

theorem gstep_text_Number_4 {R : Type} (g : List Item → St → Option R) (K : AV → List O → Option R) (b : List Int) (vat n i : Int) :
    runSeg Tryd.prog T_text_Number cuts_text_Number 0 g (finish Tryd.prog Tryd.f21 0 K) (at' Tryd.f21 4) (sta_text_Number_4 b vat n i) =
    (fun (g21_4 : GT_text_Number_4 R) (K0 : Int → Int → Int → Option R) (b : List Int) (vat n i : Int) =>
    bi (decide (i < (b.length : Int)))
     (bi (decide (0 ≤ i ∧ i < ((b.length : Nat) : Int)))
      (bi (decide ((b.getD i.toNat 0) ≥ 48))
       (bi (decide (0 ≤ i ∧ i < ((b.length : Nat) : Int)))
        (bi (decide ((b.getD i.toNat 0) ≤ 57))
         (bi ((IntKind.i64.wrap (i - vat)) == 4)
          (K0 0 i 6)
          (bi ((IntKind.i64.wrap (i - vat)) == 1)
           (bi (decide (0 ≤ vat ∧ vat < ((b.length : Nat) : Int)))
            (bi ((b.getD vat.toNat 0) == 48)
             (K0 0 i 6)
             (bi (decide (0 ≤ i ∧ i < ((b.length : Nat) : Int)))
              (g21_4 b vat (IntKind.i64.wrap ((IntKind.i64.wrap (10 * n)) + (IntKind.i64.wrap (IntKind.u8.wrap ((b.getD i.toNat 0) - 48))))) (IntKind.i64.wrap (i + 1)))
              none))
            none)
           (bi (decide (0 ≤ i ∧ i < ((b.length : Nat) : Int)))
            (g21_4 b vat (IntKind.i64.wrap ((IntKind.i64.wrap (10 * n)) + (IntKind.i64.wrap (IntKind.u8.wrap ((b.getD i.toNat 0) - 48))))) (IntKind.i64.wrap (i + 1)))
            none)))
         (bi (i == vat)
          (K0 0 vat 6)
          (K0 n i 0)))
        none)
       (bi (i == vat)
        (K0 0 vat 6)
        (K0 n i 0)))
      none)
     (bi (i == vat)
      (K0 0 vat 6)
      (K0 n i 0))) (gt_text_Number_4 g) (fun r0 r1 r2 => K (.tup [.v (.int .i64 r0), .v (.int .i64 r1), .v (.int .i64 r2)]) []) b vat n i := by kernel_rfl

theorem gentry_text_Number {R : Type} (fuel : Nat) (K : AV → List O → Option R) (b : List Int) (vat : Int) :
    fnRun Tryd.prog T_text_Number cuts_text_Number Tryd.f21 fuel [.rd ⟨false, 5, (.int .u8), b⟩, .v (.int .i64 vat)] [] K =
    (fun (g21_4 : GT_text_Number_4 R) (K0 : Int → Int → Int → Option R) (b : List Int) (vat : Int) =>
    bi (decide (vat < 0))
     (K0 0 0 1)
     (bi (decide (vat > (b.length : Int)))
      (K0 0 0 1)
      (g21_4 b vat 0 vat))) (gt_text_Number_4 (runO Tryd.prog T_text_Number cuts_text_Number 0 (finish Tryd.prog Tryd.f21 0 K) fuel)) (fun r0 r1 r2 => K (.tup [.v (.int .i64 r0), .v (.int .i64 r1), .v (.int .i64 r2)]) []) b vat := by kernel_rfl

theorem runs_text_Number {R : Type} (K : AV → List O → Option R) : ∀ fuel : Nat,
    (gt_text_Number_4 (runO Tryd.prog T_text_Number cuts_text_Number 0 (finish Tryd.prog Tryd.f21 0 K) fuel)) = (run_text_Number (fun r0 r1 r2 => K (.tup [.v (.int .i64 r0), .v (.int .i64 r1), .v (.int .i64 r2)]) []) fuel)
  | 0 => rfl
  | fuel + 1 => by
    have ih := runs_text_Number K fuel
    funext b vat n i
    refine (gstep_text_Number_4 _ K b vat n i).trans ?_
    rw [ih]
    rfl

def S_text_Number (l_text_Number : LT_text_Number) : Sum := ⟨[], fun {R} args ob K => match args, ob with
  | [.rd ⟨false, 5, (.int .u8), b⟩, .v (.int .i64 vat)], [] => l_text_Number b vat (fun r0 r1 r2 => K (.tup [.v (.int .i64 r0), .v (.int .i64 r1), .v (.int .i64 r2)]) [])
  | _, _ => none⟩

theorem sound_text_Number : Sound Tryd.prog 21 (S_text_Number @l_text_Number) := by
  refine fn_sound (cuts := cuts_text_Number) (fn := Tryd.f21) (Γ := T_text_Number) wide right_T_text_Number Tryd.func21 fun {R} K r args ob h => ?_
  unfold S_text_Number at h
  dsimp only at h
  split at h
  · obtain ⟨n, hn⟩ := ok_text_Number _ _ _ h
    refine ⟨Nat.le_of_ble_eq_true (by kernel_rfl), n, (gentry_text_Number n K _ _).trans ?_⟩
    rw [(runs_text_Number K n)]
    exact hn
  · cases h

theorem call_text_Number : Callable Tryd.prog 21 := ⟨_, Tryd.func21, by kernel_rfl, by kernel_rfl⟩

def T_text_reader_number (l_text_Number : LT_text_Number) : FuncId → Option Sum := (addS G0 21 (S_text_Number @l_text_Number))

theorem right_T_text_reader_number : Right Tryd.prog (T_text_reader_number @l_text_Number) := (right_add right_G0 call_text_Number sound_text_Number)

abbrev cuts_text_reader_number_fault : Cuts := []

theorem gentry_text_reader_number_fault (l_text_Number : LT_text_Number) {R : Type} (K : AV → List O → Option R) (low high kind : Int) (o0 : List Int) (o0_1 o1 o1_1 : Int) :
    fnRun Tryd.prog (T_text_reader_number @l_text_Number) cuts_text_reader_number_fault Tryd.f49 0 [.ptr 0 0, .v (.int .i64 low), .v (.int .i64 high), .v (.int .i64 kind)] [.box 77 [.rd ⟨false, 5, (.int .u8), o0⟩, .v (.int .i64 o0_1), .ifc 79 (.ptr 1 0)], .box 83 [.v (.int .i64 o1), .v (.int .i64 o1_1)]] K =
    (fun (low high kind : Int) (o0 : List Int) (o0_1 o1 o1_1 : Int) (K0 : Int → (List Int) → Int → Int → Int → Option R) =>
    K0 0 o0 o0_1 o1 o1_1) low high kind o0 o0_1 o1 o1_1 (fun r0 r1 r2 r3 r4 => K (.v (.int .i64 r0)) [.box 77 [.rd ⟨false, 5, (.int .u8), r1⟩, .v (.int .i64 r2), .ifc 79 (.ptr 1 0)], .box 83 [.v (.int .i64 r3), .v (.int .i64 r4)]]) := by kernel_rfl

abbrev cuts_text_reader_number_none : Cuts := []

theorem gentry_text_reader_number_none (l_text_Number : LT_text_Number) {R : Type} (K : AV → List O → Option R) (low high kind : Int) (o0 : List Int) (o0_1 : Int) :
    fnRun Tryd.prog (T_text_reader_number @l_text_Number) cuts_text_reader_number_none Tryd.f49 0 [.ptr 0 0, .v (.int .i64 low), .v (.int .i64 high), .v (.int .i64 kind)] [.box 77 [.rd ⟨false, 5, (.int .u8), o0⟩, .v (.int .i64 o0_1), .v (.nilIface)]] K =
    (fun (low high kind : Int) (o0 : List Int) (o0_1 : Int) (K0 : Int → (List Int) → Int → Int → Int → Option R) (K1 : Int → (List Int) → Int → Option R) =>
    l_text_Number o0 o0_1
     (fun r1 r2 r3 =>
      bi (r3 != 0)
       (K0 r1 o0 r2 r3 r2)
       (bi (decide (r1 < low))
        (K0 r1 o0 r2 kind o0_1)
        (bi (decide (r1 > high))
         (K0 r1 o0 r2 kind o0_1)
         (K1 r1 o0 r2))))) low high kind o0 o0_1 (fun r0 r1 r2 r3 r4 => K (.v (.int .i64 r0)) [.box 77 [.rd ⟨false, 5, (.int .u8), r1⟩, .v (.int .i64 r2), .ifc 79 (.ptr 1 0)], .box 83 [.v (.int .i64 r3), .v (.int .i64 r4)]]) (fun r0 r1 r2 => K (.v (.int .i64 r0)) [.box 77 [.rd ⟨false, 5, (.int .u8), r1⟩, .v (.int .i64 r2), .v (.nilIface)]]) := by kernel_rfl

def S_text_reader_number (l_text_reader_number_fault : LT_text_reader_number_fault) (l_text_reader_number_none : LT_text_reader_number_none) : Sum := ⟨[], fun {R} args ob K => match args, ob with
  | [.ptr 0 0, .v (.int .i64 low), .v (.int .i64 high), .v (.int .i64 kind)], [.box 77 [.rd ⟨false, 5, (.int .u8), o0⟩, .v (.int .i64 o0_1), .ifc 79 (.ptr 1 0)], .box 83 [.v (.int .i64 o1), .v (.int .i64 o1_1)]] => l_text_reader_number_fault low high kind o0 o0_1 o1 o1_1 (fun r0 r1 r2 r3 r4 => K (.v (.int .i64 r0)) [.box 77 [.rd ⟨false, 5, (.int .u8), r1⟩, .v (.int .i64 r2), .ifc 79 (.ptr 1 0)], .box 83 [.v (.int .i64 r3), .v (.int .i64 r4)]])
  | [.ptr 0 0, .v (.int .i64 low), .v (.int .i64 high), .v (.int .i64 kind)], [.box 77 [.rd ⟨false, 5, (.int .u8), o0⟩, .v (.int .i64 o0_1), .v (.nilIface)]] => l_text_reader_number_none low high kind o0 o0_1 (fun r0 r1 r2 r3 r4 => K (.v (.int .i64 r0)) [.box 77 [.rd ⟨false, 5, (.int .u8), r1⟩, .v (.int .i64 r2), .ifc 79 (.ptr 1 0)], .box 83 [.v (.int .i64 r3), .v (.int .i64 r4)]]) (fun r0 r1 r2 => K (.v (.int .i64 r0)) [.box 77 [.rd ⟨false, 5, (.int .u8), r1⟩, .v (.int .i64 r2), .v (.nilIface)]])
  | _, _ => none⟩

theorem sound_text_reader_number : Sound Tryd.prog 49 (S_text_reader_number @l_text_reader_number_fault @l_text_reader_number_none) := by
  refine fn_sound (cuts := cuts_text_reader_number_fault) (fn := Tryd.f49) (Γ := (T_text_reader_number @l_text_Number)) wide right_T_text_reader_number Tryd.func49 fun {R} K r args ob h => ?_
  unfold S_text_reader_number at h
  dsimp only at h
  split at h
  · exact ⟨Nat.le_of_ble_eq_true (by kernel_rfl), 0, (gentry_text_reader_number_fault @l_text_Number K _ _ _ _ _ _ _).trans h⟩
  · exact ⟨Nat.le_of_ble_eq_true (by kernel_rfl), 0, (gentry_text_reader_number_none @l_text_Number K _ _ _ _ _).trans h⟩
  · cases h

theorem call_text_reader_number : Callable Tryd.prog 49 := ⟨_, Tryd.func49, by kernel_rfl, by kernel_rfl⟩

def T_text_reader_read (l_text_reader_want_none : LT_text_reader_want_none) (l_text_reader_want_fault : LT_text_reader_want_fault) (l_text_reader_number_fault : LT_text_reader_number_fault) (l_text_reader_number_none : LT_text_reader_number_none) : FuncId → Option Sum := (addS (addS G0 50 (S_text_reader_want @l_text_reader_want_none @l_text_reader_want_fault)) 49 (S_text_reader_number @l_text_reader_number_fault @l_text_reader_number_none))

theorem right_T_text_reader_read : Right Tryd.prog (T_text_reader_read @l_text_reader_want_none @l_text_reader_want_fault @l_text_reader_number_fault @l_text_reader_number_none) := (right_add (right_add right_G0 call_text_reader_want sound_text_reader_want) call_text_reader_number sound_text_reader_number)

abbrev cuts_text_reader_read_none : Cuts := [(15, [0, 2, 3, 4, 5, 6]), (19, [0, 2, 3, 4, 5, 6]), (20, [0, 2, 3, 4, 5, 6, 7]), (21, [0, 2, 3, 4, 5, 6, 7]), (25, [0, 2, 3, 4, 5, 6, 7])]

abbrev sta_text_reader_read_none_15a (s : Int) (o0 : List Int) (o0_1 o1 o1_1 o2 o2_1 o2_2 o2_3 : Int) (o3 o4 : List Int) (o5 o5_1 o5_2 o5_3 : Int) (o6 o7 : List Int) : St := ⟨fr0 151 [(0, .ptr 0 0), (2, .ptr 2 0), (3, .ptr 5 0), (4, .bnd 49 [.ptr 0 0]), (5, .bnd 50 [.ptr 0 0]), (6, .v (.int .i64 s))], [.box 77 [.rd ⟨false, 5, (.int .u8), o0⟩, .v (.int .i64 o0_1), .ifc 79 (.ptr 1 0)], .box 83 [.v (.int .i64 o1), .v (.int .i64 o1_1)], .box 24 [.v (.int .i64 o2), .v (.int .i64 o2_1), .v (.int .i64 o2_2), .v (.int .i64 o2_3), .own 3, .own 4], .row ⟨true, 3, (.int .i64), o3⟩, .row ⟨true, 3, (.int .i64), o4⟩, .box 24 [.v (.int .i64 o5), .v (.int .i64 o5_1), .v (.int .i64 o5_2), .v (.int .i64 o5_3), .own 6, .own 7], .row ⟨true, 3, (.int .i64), o6⟩, .row ⟨true, 3, (.int .i64), o7⟩]⟩

abbrev gt_text_reader_read_none_15a {R : Type} (g : List Item → St → Option R) : GT_text_reader_read_none_15a R := fun (s : Int) (o0 : List Int) (o0_1 o1 o1_1 o2 o2_1 o2_2 o2_3 : Int) (o3 o4 : List Int) (o5 o5_1 o5_2 o5_3 : Int) (o6 o7 : List Int) => g (at' Tryd.f38 15) (sta_text_reader_read_none_15a s o0 o0_1 o1 o1_1 o2 o2_1 o2_2 o2_3 o3 o4 o5 o5_1 o5_2 o5_3 o6 o7)

abbrev sta_text_reader_read_none_15b (s : Int) (o0 : List Int) (o0_1 o1 o1_1 o1_2 o1_3 : Int) (o2 o3 : List Int) (o4 o4_1 o4_2 o4_3 : Int) (o5 o6 : List Int) : St := ⟨fr0 151 [(0, .ptr 0 0), (2, .ptr 1 0), (3, .ptr 4 0), (4, .bnd 49 [.ptr 0 0]), (5, .bnd 50 [.ptr 0 0]), (6, .v (.int .i64 s))], [.box 77 [.rd ⟨false, 5, (.int .u8), o0⟩, .v (.int .i64 o0_1), .v (.nilIface)], .box 24 [.v (.int .i64 o1), .v (.int .i64 o1_1), .v (.int .i64 o1_2), .v (.int .i64 o1_3), .own 2, .own 3], .row ⟨true, 3, (.int .i64), o2⟩, .row ⟨true, 3, (.int .i64), o3⟩, .box 24 [.v (.int .i64 o4), .v (.int .i64 o4_1), .v (.int .i64 o4_2), .v (.int .i64 o4_3), .own 5, .own 6], .row ⟨true, 3, (.int .i64), o5⟩, .row ⟨true, 3, (.int .i64), o6⟩]⟩

abbrev gt_text_reader_read_none_15b {R : Type} (g : List Item → St → Option R) : GT_text_reader_read_none_15b R := fun (s : Int) (o0 : List Int) (o0_1 o1 o1_1 o1_2 o1_3 : Int) (o2 o3 : List Int) (o4 o4_1 o4_2 o4_3 : Int) (o5 o6 : List Int) => g (at' Tryd.f38 15) (sta_text_reader_read_none_15b s o0 o0_1 o1 o1_1 o1_2 o1_3 o2 o3 o4 o4_1 o4_2 o4_3 o5 o6)

abbrev sta_text_reader_read_none_19a (s : Int) (o0 : List Int) (o0_1 o1 o1_1 o2 o2_1 o2_2 o2_3 : Int) (o3 o4 : List Int) (o5 o5_1 o5_2 o5_3 : Int) (o6 o7 : List Int) : St := ⟨fr0 151 [(0, .ptr 0 0), (2, .ptr 2 0), (3, .ptr 5 0), (4, .bnd 49 [.ptr 0 0]), (5, .bnd 50 [.ptr 0 0]), (6, .v (.int .i64 s))], [.box 77 [.rd ⟨false, 5, (.int .u8), o0⟩, .v (.int .i64 o0_1), .ifc 79 (.ptr 1 0)], .box 83 [.v (.int .i64 o1), .v (.int .i64 o1_1)], .box 24 [.v (.int .i64 o2), .v (.int .i64 o2_1), .v (.int .i64 o2_2), .v (.int .i64 o2_3), .own 3, .own 4], .row ⟨true, 3, (.int .i64), o3⟩, .row ⟨true, 3, (.int .i64), o4⟩, .box 24 [.v (.int .i64 o5), .v (.int .i64 o5_1), .v (.int .i64 o5_2), .v (.int .i64 o5_3), .own 6, .own 7], .row ⟨true, 3, (.int .i64), o6⟩, .row ⟨true, 3, (.int .i64), o7⟩]⟩

abbrev gt_text_reader_read_none_19a {R : Type} (g : List Item → St → Option R) : GT_text_reader_read_none_19a R := fun (s : Int) (o0 : List Int) (o0_1 o1 o1_1 o2 o2_1 o2_2 o2_3 : Int) (o3 o4 : List Int) (o5 o5_1 o5_2 o5_3 : Int) (o6 o7 : List Int) => g (at' Tryd.f38 19) (sta_text_reader_read_none_19a s o0 o0_1 o1 o1_1 o2 o2_1 o2_2 o2_3 o3 o4 o5 o5_1 o5_2 o5_3 o6 o7)

abbrev sta_text_reader_read_none_19b (s : Int) (o0 : List Int) (o0_1 o1 o1_1 o1_2 o1_3 : Int) (o2 o3 : List Int) (o4 o4_1 o4_2 o4_3 : Int) (o5 o6 : List Int) : St := ⟨fr0 151 [(0, .ptr 0 0), (2, .ptr 1 0), (3, .ptr 4 0), (4, .bnd 49 [.ptr 0 0]), (5, .bnd 50 [.ptr 0 0]), (6, .v (.int .i64 s))], [.box 77 [.rd ⟨false, 5, (.int .u8), o0⟩, .v (.int .i64 o0_1), .v (.nilIface)], .box 24 [.v (.int .i64 o1), .v (.int .i64 o1_1), .v (.int .i64 o1_2), .v (.int .i64 o1_3), .own 2, .own 3], .row ⟨true, 3, (.int .i64), o2⟩, .row ⟨true, 3, (.int .i64), o3⟩, .box 24 [.v (.int .i64 o4), .v (.int .i64 o4_1), .v (.int .i64 o4_2), .v (.int .i64 o4_3), .own 5, .own 6], .row ⟨true, 3, (.int .i64), o5⟩, .row ⟨true, 3, (.int .i64), o6⟩]⟩

abbrev gt_text_reader_read_none_19b {R : Type} (g : List Item → St → Option R) : GT_text_reader_read_none_19b R := fun (s : Int) (o0 : List Int) (o0_1 o1 o1_1 o1_2 o1_3 : Int) (o2 o3 : List Int) (o4 o4_1 o4_2 o4_3 : Int) (o5 o6 : List Int) => g (at' Tryd.f38 19) (sta_text_reader_read_none_19b s o0 o0_1 o1 o1_1 o1_2 o1_3 o2 o3 o4 o4_1 o4_2 o4_3 o5 o6)

abbrev sta_text_reader_read_none_20a (s x : Int) (o0 : List Int) (o0_1 o1 o1_1 o2 o2_1 o2_2 o2_3 : Int) (o3 o4 : List Int) (o5 o5_1 o5_2 o5_3 : Int) (o6 o7 : List Int) : St := ⟨fr0 151 [(0, .ptr 0 0), (2, .ptr 2 0), (3, .ptr 5 0), (4, .bnd 49 [.ptr 0 0]), (5, .bnd 50 [.ptr 0 0]), (6, .v (.int .i64 s)), (7, .v (.int .i64 x))], [.box 77 [.rd ⟨false, 5, (.int .u8), o0⟩, .v (.int .i64 o0_1), .ifc 79 (.ptr 1 0)], .box 83 [.v (.int .i64 o1), .v (.int .i64 o1_1)], .box 24 [.v (.int .i64 o2), .v (.int .i64 o2_1), .v (.int .i64 o2_2), .v (.int .i64 o2_3), .own 3, .own 4], .row ⟨true, 3, (.int .i64), o3⟩, .row ⟨true, 3, (.int .i64), o4⟩, .box 24 [.v (.int .i64 o5), .v (.int .i64 o5_1), .v (.int .i64 o5_2), .v (.int .i64 o5_3), .own 6, .own 7], .row ⟨true, 3, (.int .i64), o6⟩, .row ⟨true, 3, (.int .i64), o7⟩]⟩

abbrev gt_text_reader_read_none_20a {R : Type} (g : List Item → St → Option R) : GT_text_reader_read_none_20a R := fun (s x : Int) (o0 : List Int) (o0_1 o1 o1_1 o2 o2_1 o2_2 o2_3 : Int) (o3 o4 : List Int) (o5 o5_1 o5_2 o5_3 : Int) (o6 o7 : List Int) => g (at' Tryd.f38 20) (sta_text_reader_read_none_20a s x o0 o0_1 o1 o1_1 o2 o2_1 o2_2 o2_3 o3 o4 o5 o5_1 o5_2 o5_3 o6 o7)

abbrev sta_text_reader_read_none_20b (s x : Int) (o0 : List Int) (o0_1 o1 o1_1 o1_2 o1_3 : Int) (o2 o3 : List Int) (o4 o4_1 o4_2 o4_3 : Int) (o5 o6 : List Int) : St := ⟨fr0 151 [(0, .ptr 0 0), (2, .ptr 1 0), (3, .ptr 4 0), (4, .bnd 49 [.ptr 0 0]), (5, .bnd 50 [.ptr 0 0]), (6, .v (.int .i64 s)), (7, .v (.int .i64 x))], [.box 77 [.rd ⟨false, 5, (.int .u8), o0⟩, .v (.int .i64 o0_1), .v (.nilIface)], .box 24 [.v (.int .i64 o1), .v (.int .i64 o1_1), .v (.int .i64 o1_2), .v (.int .i64 o1_3), .own 2, .own 3], .row ⟨true, 3, (.int .i64), o2⟩, .row ⟨true, 3, (.int .i64), o3⟩, .box 24 [.v (.int .i64 o4), .v (.int .i64 o4_1), .v (.int .i64 o4_2), .v (.int .i64 o4_3), .own 5, .own 6], .row ⟨true, 3, (.int .i64), o5⟩, .row ⟨true, 3, (.int .i64), o6⟩]⟩

abbrev gt_text_reader_read_none_20b {R : Type} (g : List Item → St → Option R) : GT_text_reader_read_none_20b R := fun (s x : Int) (o0 : List Int) (o0_1 o1 o1_1 o1_2 o1_3 : Int) (o2 o3 : List Int) (o4 o4_1 o4_2 o4_3 : Int) (o5 o6 : List Int) => g (at' Tryd.f38 20) (sta_text_reader_read_none_20b s x o0 o0_1 o1 o1_1 o1_2 o1_3 o2 o3 o4 o4_1 o4_2 o4_3 o5 o6)

abbrev sta_text_reader_read_none_25a (s x : Int) (o0 : List Int) (o0_1 o1 o1_1 o2 o2_1 o2_2 o2_3 : Int) (o3 o4 : List Int) (o5 o5_1 o5_2 o5_3 : Int) (o6 o7 : List Int) : St := ⟨fr0 151 [(0, .ptr 0 0), (2, .ptr 2 0), (3, .ptr 5 0), (4, .bnd 49 [.ptr 0 0]), (5, .bnd 50 [.ptr 0 0]), (6, .v (.int .i64 s)), (7, .v (.int .i64 x))], [.box 77 [.rd ⟨false, 5, (.int .u8), o0⟩, .v (.int .i64 o0_1), .ifc 79 (.ptr 1 0)], .box 83 [.v (.int .i64 o1), .v (.int .i64 o1_1)], .box 24 [.v (.int .i64 o2), .v (.int .i64 o2_1), .v (.int .i64 o2_2), .v (.int .i64 o2_3), .own 3, .own 4], .row ⟨true, 3, (.int .i64), o3⟩, .row ⟨true, 3, (.int .i64), o4⟩, .box 24 [.v (.int .i64 o5), .v (.int .i64 o5_1), .v (.int .i64 o5_2), .v (.int .i64 o5_3), .own 6, .own 7], .row ⟨true, 3, (.int .i64), o6⟩, .row ⟨true, 3, (.int .i64), o7⟩]⟩

abbrev gt_text_reader_read_none_25a {R : Type} (g : List Item → St → Option R) : GT_text_reader_read_none_25a R := fun (s x : Int) (o0 : List Int) (o0_1 o1 o1_1 o2 o2_1 o2_2 o2_3 : Int) (o3 o4 : List Int) (o5 o5_1 o5_2 o5_3 : Int) (o6 o7 : List Int) => g (at' Tryd.f38 25) (sta_text_reader_read_none_25a s x o0 o0_1 o1 o1_1 o2 o2_1 o2_2 o2_3 o3 o4 o5 o5_1 o5_2 o5_3 o6 o7)

abbrev sta_text_reader_read_none_25b (s x : Int) (o0 : List Int) (o0_1 o1 o1_1 o1_2 o1_3 : Int) (o2 o3 : List Int) (o4 o4_1 o4_2 o4_3 : Int) (o5 o6 : List Int) : St := ⟨fr0 151 [(0, .ptr 0 0), (2, .ptr 1 0), (3, .ptr 4 0), (4, .bnd 49 [.ptr 0 0]), (5, .bnd 50 [.ptr 0 0]), (6, .v (.int .i64 s)), (7, .v (.int .i64 x))], [.box 77 [.rd ⟨false, 5, (.int .u8), o0⟩, .v (.int .i64 o0_1), .v (.nilIface)], .box 24 [.v (.int .i64 o1), .v (.int .i64 o1_1), .v (.int .i64 o1_2), .v (.int .i64 o1_3), .own 2, .own 3], .row ⟨true, 3, (.int .i64), o2⟩, .row ⟨true, 3, (.int .i64), o3⟩, .box 24 [.v (.int .i64 o4), .v (.int .i64 o4_1), .v (.int .i64 o4_2), .v (.int .i64 o4_3), .own 5, .own 6], .row ⟨true, 3, (.int .i64), o5⟩, .row ⟨true, 3, (.int .i64), o6⟩]⟩

abbrev gt_text_reader_read_none_25b {R : Type} (g : List Item → St → Option R) : GT_text_reader_read_none_25b R := fun (s x : Int) (o0 : List Int) (o0_1 o1 o1_1 o1_2 o1_3 : Int) (o2 o3 : List Int) (o4 o4_1 o4_2 o4_3 : Int) (o5 o6 : List Int) => g (at' Tryd.f38 25) (sta_text_reader_read_none_25b s x o0 o0_1 o1 o1_1 o1_2 o1_3 o2 o3 o4 o4_1 o4_2 o4_3 o5 o6)

abbrev sta_text_reader_read_none_21a (s x : Int) (o0 : List Int) (o0_1 o1 o1_1 o2 o2_1 o2_2 o2_3 : Int) (o3 o4 : List Int) (o5 o5_1 o5_2 o5_3 : Int) (o6 o7 : List Int) : St := ⟨fr0 151 [(0, .ptr 0 0), (2, .ptr 2 0), (3, .ptr 5 0), (4, .bnd 49 [.ptr 0 0]), (5, .bnd 50 [.ptr 0 0]), (6, .v (.int .i64 s)), (7, .v (.int .i64 x))], [.box 77 [.rd ⟨false, 5, (.int .u8), o0⟩, .v (.int .i64 o0_1), .ifc 79 (.ptr 1 0)], .box 83 [.v (.int .i64 o1), .v (.int .i64 o1_1)], .box 24 [.v (.int .i64 o2), .v (.int .i64 o2_1), .v (.int .i64 o2_2), .v (.int .i64 o2_3), .own 3, .own 4], .row ⟨true, 3, (.int .i64), o3⟩, .row ⟨true, 3, (.int .i64), o4⟩, .box 24 [.v (.int .i64 o5), .v (.int .i64 o5_1), .v (.int .i64 o5_2), .v (.int .i64 o5_3), .own 6, .own 7], .row ⟨true, 3, (.int .i64), o6⟩, .row ⟨true, 3, (.int .i64), o7⟩]⟩

abbrev gt_text_reader_read_none_21a {R : Type} (g : List Item → St → Option R) : GT_text_reader_read_none_21a R := fun (s x : Int) (o0 : List Int) (o0_1 o1 o1_1 o2 o2_1 o2_2 o2_3 : Int) (o3 o4 : List Int) (o5 o5_1 o5_2 o5_3 : Int) (o6 o7 : List Int) => g (at' Tryd.f38 21) (sta_text_reader_read_none_21a s x o0 o0_1 o1 o1_1 o2 o2_1 o2_2 o2_3 o3 o4 o5 o5_1 o5_2 o5_3 o6 o7)

abbrev sta_text_reader_read_none_21b (s x : Int) (o0 : List Int) (o0_1 o1 o1_1 o1_2 o1_3 : Int) (o2 o3 : List Int) (o4 o4_1 o4_2 o4_3 : Int) (o5 o6 : List Int) : St := ⟨fr0 151 [(0, .ptr 0 0), (2, .ptr 1 0), (3, .ptr 4 0), (4, .bnd 49 [.ptr 0 0]), (5, .bnd 50 [.ptr 0 0]), (6, .v (.int .i64 s)), (7, .v (.int .i64 x))], [.box 77 [.rd ⟨false, 5, (.int .u8), o0⟩, .v (.int .i64 o0_1), .v (.nilIface)], .box 24 [.v (.int .i64 o1), .v (.int .i64 o1_1), .v (.int .i64 o1_2), .v (.int .i64 o1_3), .own 2, .own 3], .row ⟨true, 3, (.int .i64), o2⟩, .row ⟨true, 3, (.int .i64), o3⟩, .box 24 [.v (.int .i64 o4), .v (.int .i64 o4_1), .v (.int .i64 o4_2), .v (.int .i64 o4_3), .own 5, .own 6], .row ⟨true, 3, (.int .i64), o5⟩, .row ⟨true, 3, (.int .i64), o6⟩]⟩

abbrev gt_text_reader_read_none_21b {R : Type} (g : List Item → St → Option R) : GT_text_reader_read_none_21b R := fun (s x : Int) (o0 : List Int) (o0_1 o1 o1_1 o1_2 o1_3 : Int) (o2 o3 : List Int) (o4 o4_1 o4_2 o4_3 : Int) (o5 o6 : List Int) => g (at' Tryd.f38 21) (sta_text_reader_read_none_21b s x o0 o0_1 o1 o1_1 o1_2 o1_3 o2 o3 o4 o4_1 o4_2 o4_3 o5 o6)

theorem gstep_text_reader_read_none_15a (l_text_reader_want_none : LT_text_reader_want_none) (l_text_reader_want_fault : LT_text_reader_want_fault) (l_text_reader_number_fault : LT_text_reader_number_fault) (l_text_reader_number_none : LT_text_reader_number_none) {R : Type} (g : List Item → St → Option R) (K : AV → List O → Option R) (s : Int) (o0 : List Int) (o0_1 o1 o1_1 o2 o2_1 o2_2 o2_3 : Int) (o3 o4 : List Int) (o5 o5_1 o5_2 o5_3 : Int) (o6 o7 : List Int) :
    runSeg Tryd.prog (T_text_reader_read @l_text_reader_want_none @l_text_reader_want_fault @l_text_reader_number_fault @l_text_reader_number_none) cuts_text_reader_read_none 1 g (finish Tryd.prog Tryd.f38 1 K) (at' Tryd.f38 15) (sta_text_reader_read_none_15a s o0 o0_1 o1 o1_1 o2 o2_1 o2_2 o2_3 o3 o4 o5 o5_1 o5_2 o5_3 o6 o7) =
    (fun (g38_15 : GT_text_reader_read_none_15a R) (g38_15b : GT_text_reader_read_none_15b R) (g38_19 : GT_text_reader_read_none_19a R) (g38_19b : GT_text_reader_read_none_19b R) (g38_20 : GT_text_reader_read_none_20a R) (g38_20b : GT_text_reader_read_none_20b R) (g38_25 : GT_text_reader_read_none_25a R) (g38_25b : GT_text_reader_read_none_25b R) (g38_21 : GT_text_reader_read_none_21a R) (g38_21b : GT_text_reader_read_none_21b R) (K0 : Int → Int → Int → Int → (List Int) → Int → Int → Int → (List Int) → (List Int) → Option R) (K1 : Int → Int → Int → Int → (List Int) → Int → (List Int) → (List Int) → Option R) (s : Int) (o0 : List Int) (o0_1 o1 o1_1 o2 o2_1 o2_2 o2_3 : Int) (o3 o4 : List Int) (o5 o5_1 o5_2 o5_3 : Int) (o6 o7 : List Int) =>
    bi (decide (s < o5_3))
     (K0 o5 o5_1 o5_2 o5_3 o0 o0_1 o1 o1_1 o6 o7)
     (K0 o5 o5_1 o5_2 o5_3 o0 o0_1 o1 o1_1 o6 o7)) (gt_text_reader_read_none_15a g) (gt_text_reader_read_none_15b g) (gt_text_reader_read_none_19a g) (gt_text_reader_read_none_19b g) (gt_text_reader_read_none_20a g) (gt_text_reader_read_none_20b g) (gt_text_reader_read_none_25a g) (gt_text_reader_read_none_25b g) (gt_text_reader_read_none_21a g) (gt_text_reader_read_none_21b g) (fun r0 r1 r2 r3 r4 r5 r6 r7 r8 r9 => K (.agg [.v (.int .i64 r0), .v (.int .i64 r1), .v (.int .i64 r2), .v (.int .i64 r3), .own 2, .own 3]) [.box 77 [.rd ⟨false, 5, (.int .u8), r4⟩, .v (.int .i64 r5), .ifc 79 (.ptr 1 0)], .box 83 [.v (.int .i64 r6), .v (.int .i64 r7)], .row ⟨true, 3, (.int .i64), r8⟩, .row ⟨true, 3, (.int .i64), r9⟩]) (fun r0 r1 r2 r3 r4 r5 r6 r7 => K (.agg [.v (.int .i64 r0), .v (.int .i64 r1), .v (.int .i64 r2), .v (.int .i64 r3), .own 1, .own 2]) [.box 77 [.rd ⟨false, 5, (.int .u8), r4⟩, .v (.int .i64 r5), .v (.nilIface)], .row ⟨true, 3, (.int .i64), r6⟩, .row ⟨true, 3, (.int .i64), r7⟩]) s o0 o0_1 o1 o1_1 o2 o2_1 o2_2 o2_3 o3 o4 o5 o5_1 o5_2 o5_3 o6 o7 := by kernel_rfl

theorem gstep_text_reader_read_none_15b (l_text_reader_want_none : LT_text_reader_want_none) (l_text_reader_want_fault : LT_text_reader_want_fault) (l_text_reader_number_fault : LT_text_reader_number_fault) (l_text_reader_number_none : LT_text_reader_number_none) {R : Type} (g : List Item → St → Option R) (K : AV → List O → Option R) (s : Int) (o0 : List Int) (o0_1 o1 o1_1 o1_2 o1_3 : Int) (o2 o3 : List Int) (o4 o4_1 o4_2 o4_3 : Int) (o5 o6 : List Int) :
    runSeg Tryd.prog (T_text_reader_read @l_text_reader_want_none @l_text_reader_want_fault @l_text_reader_number_fault @l_text_reader_number_none) cuts_text_reader_read_none 1 g (finish Tryd.prog Tryd.f38 1 K) (at' Tryd.f38 15) (sta_text_reader_read_none_15b s o0 o0_1 o1 o1_1 o1_2 o1_3 o2 o3 o4 o4_1 o4_2 o4_3 o5 o6) =
    (fun (g38_15 : GT_text_reader_read_none_15a R) (g38_15b : GT_text_reader_read_none_15b R) (g38_19 : GT_text_reader_read_none_19a R) (g38_19b : GT_text_reader_read_none_19b R) (g38_20 : GT_text_reader_read_none_20a R) (g38_20b : GT_text_reader_read_none_20b R) (g38_25 : GT_text_reader_read_none_25a R) (g38_25b : GT_text_reader_read_none_25b R) (g38_21 : GT_text_reader_read_none_21a R) (g38_21b : GT_text_reader_read_none_21b R) (K0 : Int → Int → Int → Int → (List Int) → Int → Int → Int → (List Int) → (List Int) → Option R) (K1 : Int → Int → Int → Int → (List Int) → Int → (List Int) → (List Int) → Option R) (s : Int) (o0 : List Int) (o0_1 o1 o1_1 o1_2 o1_3 : Int) (o2 o3 : List Int) (o4 o4_1 o4_2 o4_3 : Int) (o5 o6 : List Int) =>
    bi (decide (s < o4_3))
     (bi (o4 == 1)
      (both
       (l_text_reader_number_none 0 1 33 o0 o0_1
        (fun r298 r299 r300 r301 r302 =>
         bi (decide ((o6.length + [r298].length) * 8 ≤ lim))
          (g38_19 s r299 r300 r301 r302 o1 o1_1 o1_2 o1_3 o2 o3 o4 o4_1 o4_2 o4_3 o5 (o6 ++ [r298]))
          none)
        (fun r303 r304 r305 =>
         bi (decide ((o6.length + [r303].length) * 8 ≤ lim))
          (g38_19b s r304 r305 o1 o1_1 o1_2 o1_3 o2 o3 o4 o4_1 o4_2 o4_3 o5 (o6 ++ [r303]))
          none))
       (l_text_reader_number_none 0 1 33 o0 o0_1
        (fun r298 r299 r300 r301 r302 =>
         twice
          (bi (decide ((o6.length + [r298].length) * 8 ≤ lim))
           (g38_19 s r299 r300 r301 r302 o1 o1_1 o1_2 o1_3 o2 o3 o4 o4_1 o4_2 o4_3 o5 (o6 ++ [r298]))
           none))
        (fun r303 r304 r305 =>
         twice
          (bi (decide ((o6.length + [r303].length) * 8 ≤ lim))
           (g38_19b s r304 r305 o1 o1_1 o1_2 o1_3 o2 o3 o4 o4_1 o4_2 o4_3 o5 (o6 ++ [r303]))
           none))))
      (g38_19b s o0 o0_1 o1 o1_1 o1_2 o1_3 o2 o3 o4 o4_1 o4_2 o4_3 o5 o6))
     (bi (decide (o0_1 < (o0.length : Int)))
      (K0 o4 o4_1 o4_2 o4_3 o0 o0_1 6 o0_1 o5 o6)
      (K1 o4 o4_1 o4_2 o4_3 o0 o0_1 o5 o6))) (gt_text_reader_read_none_15a g) (gt_text_reader_read_none_15b g) (gt_text_reader_read_none_19a g) (gt_text_reader_read_none_19b g) (gt_text_reader_read_none_20a g) (gt_text_reader_read_none_20b g) (gt_text_reader_read_none_25a g) (gt_text_reader_read_none_25b g) (gt_text_reader_read_none_21a g) (gt_text_reader_read_none_21b g) (fun r0 r1 r2 r3 r4 r5 r6 r7 r8 r9 => K (.agg [.v (.int .i64 r0), .v (.int .i64 r1), .v (.int .i64 r2), .v (.int .i64 r3), .own 2, .own 3]) [.box 77 [.rd ⟨false, 5, (.int .u8), r4⟩, .v (.int .i64 r5), .ifc 79 (.ptr 1 0)], .box 83 [.v (.int .i64 r6), .v (.int .i64 r7)], .row ⟨true, 3, (.int .i64), r8⟩, .row ⟨true, 3, (.int .i64), r9⟩]) (fun r0 r1 r2 r3 r4 r5 r6 r7 => K (.agg [.v (.int .i64 r0), .v (.int .i64 r1), .v (.int .i64 r2), .v (.int .i64 r3), .own 1, .own 2]) [.box 77 [.rd ⟨false, 5, (.int .u8), r4⟩, .v (.int .i64 r5), .v (.nilIface)], .row ⟨true, 3, (.int .i64), r6⟩, .row ⟨true, 3, (.int .i64), r7⟩]) s o0 o0_1 o1 o1_1 o1_2 o1_3 o2 o3 o4 o4_1 o4_2 o4_3 o5 o6 := by kernel_rfl

theorem gstep_text_reader_read_none_19a (l_text_reader_want_none : LT_text_reader_want_none) (l_text_reader_want_fault : LT_text_reader_want_fault) (l_text_reader_number_fault : LT_text_reader_number_fault) (l_text_reader_number_none : LT_text_reader_number_none) {R : Type} (g : List Item → St → Option R) (K : AV → List O → Option R) (s : Int) (o0 : List Int) (o0_1 o1 o1_1 o2 o2_1 o2_2 o2_3 : Int) (o3 o4 : List Int) (o5 o5_1 o5_2 o5_3 : Int) (o6 o7 : List Int) :
    runSeg Tryd.prog (T_text_reader_read @l_text_reader_want_none @l_text_reader_want_fault @l_text_reader_number_fault @l_text_reader_number_none) cuts_text_reader_read_none 1 g (finish Tryd.prog Tryd.f38 1 K) (at' Tryd.f38 19) (sta_text_reader_read_none_19a s o0 o0_1 o1 o1_1 o2 o2_1 o2_2 o2_3 o3 o4 o5 o5_1 o5_2 o5_3 o6 o7) =
    (fun (g38_15 : GT_text_reader_read_none_15a R) (g38_15b : GT_text_reader_read_none_15b R) (g38_19 : GT_text_reader_read_none_19a R) (g38_19b : GT_text_reader_read_none_19b R) (g38_20 : GT_text_reader_read_none_20a R) (g38_20b : GT_text_reader_read_none_20b R) (g38_25 : GT_text_reader_read_none_25a R) (g38_25b : GT_text_reader_read_none_25b R) (g38_21 : GT_text_reader_read_none_21a R) (g38_21b : GT_text_reader_read_none_21b R) (K0 : Int → Int → Int → Int → (List Int) → Int → Int → Int → (List Int) → (List Int) → Option R) (K1 : Int → Int → Int → Int → (List Int) → Int → (List Int) → (List Int) → Option R) (s : Int) (o0 : List Int) (o0_1 o1 o1_1 o2 o2_1 o2_2 o2_3 : Int) (o3 o4 : List Int) (o5 o5_1 o5_2 o5_3 : Int) (o6 o7 : List Int) =>
    g38_20 s 0 o0 o0_1 o1 o1_1 o2 o2_1 o2_2 o2_3 o3 o4 o5 o5_1 o5_2 o5_3 o6 o7) (gt_text_reader_read_none_15a g) (gt_text_reader_read_none_15b g) (gt_text_reader_read_none_19a g) (gt_text_reader_read_none_19b g) (gt_text_reader_read_none_20a g) (gt_text_reader_read_none_20b g) (gt_text_reader_read_none_25a g) (gt_text_reader_read_none_25b g) (gt_text_reader_read_none_21a g) (gt_text_reader_read_none_21b g) (fun r0 r1 r2 r3 r4 r5 r6 r7 r8 r9 => K (.agg [.v (.int .i64 r0), .v (.int .i64 r1), .v (.int .i64 r2), .v (.int .i64 r3), .own 2, .own 3]) [.box 77 [.rd ⟨false, 5, (.int .u8), r4⟩, .v (.int .i64 r5), .ifc 79 (.ptr 1 0)], .box 83 [.v (.int .i64 r6), .v (.int .i64 r7)], .row ⟨true, 3, (.int .i64), r8⟩, .row ⟨true, 3, (.int .i64), r9⟩]) (fun r0 r1 r2 r3 r4 r5 r6 r7 => K (.agg [.v (.int .i64 r0), .v (.int .i64 r1), .v (.int .i64 r2), .v (.int .i64 r3), .own 1, .own 2]) [.box 77 [.rd ⟨false, 5, (.int .u8), r4⟩, .v (.int .i64 r5), .v (.nilIface)], .row ⟨true, 3, (.int .i64), r6⟩, .row ⟨true, 3, (.int .i64), r7⟩]) s o0 o0_1 o1 o1_1 o2 o2_1 o2_2 o2_3 o3 o4 o5 o5_1 o5_2 o5_3 o6 o7 := by kernel_rfl

theorem gstep_text_reader_read_none_19b (l_text_reader_want_none : LT_text_reader_want_none) (l_text_reader_want_fault : LT_text_reader_want_fault) (l_text_reader_number_fault : LT_text_reader_number_fault) (l_text_reader_number_none : LT_text_reader_number_none) {R : Type} (g : List Item → St → Option R) (K : AV → List O → Option R) (s : Int) (o0 : List Int) (o0_1 o1 o1_1 o1_2 o1_3 : Int) (o2 o3 : List Int) (o4 o4_1 o4_2 o4_3 : Int) (o5 o6 : List Int) :
    runSeg Tryd.prog (T_text_reader_read @l_text_reader_want_none @l_text_reader_want_fault @l_text_reader_number_fault @l_text_reader_number_none) cuts_text_reader_read_none 1 g (finish Tryd.prog Tryd.f38 1 K) (at' Tryd.f38 19) (sta_text_reader_read_none_19b s o0 o0_1 o1 o1_1 o1_2 o1_3 o2 o3 o4 o4_1 o4_2 o4_3 o5 o6) =
    (fun (g38_15 : GT_text_reader_read_none_15a R) (g38_15b : GT_text_reader_read_none_15b R) (g38_19 : GT_text_reader_read_none_19a R) (g38_19b : GT_text_reader_read_none_19b R) (g38_20 : GT_text_reader_read_none_20a R) (g38_20b : GT_text_reader_read_none_20b R) (g38_25 : GT_text_reader_read_none_25a R) (g38_25b : GT_text_reader_read_none_25b R) (g38_21 : GT_text_reader_read_none_21a R) (g38_21b : GT_text_reader_read_none_21b R) (K0 : Int → Int → Int → Int → (List Int) → Int → Int → Int → (List Int) → (List Int) → Option R) (K1 : Int → Int → Int → Int → (List Int) → Int → (List Int) → (List Int) → Option R) (s : Int) (o0 : List Int) (o0_1 o1 o1_1 o1_2 o1_3 : Int) (o2 o3 : List Int) (o4 o4_1 o4_2 o4_3 : Int) (o5 o6 : List Int) =>
    g38_20b s 0 o0 o0_1 o1 o1_1 o1_2 o1_3 o2 o3 o4 o4_1 o4_2 o4_3 o5 o6) (gt_text_reader_read_none_15a g) (gt_text_reader_read_none_15b g) (gt_text_reader_read_none_19a g) (gt_text_reader_read_none_19b g) (gt_text_reader_read_none_20a g) (gt_text_reader_read_none_20b g) (gt_text_reader_read_none_25a g) (gt_text_reader_read_none_25b g) (gt_text_reader_read_none_21a g) (gt_text_reader_read_none_21b g) (fun r0 r1 r2 r3 r4 r5 r6 r7 r8 r9 => K (.agg [.v (.int .i64 r0), .v (.int .i64 r1), .v (.int .i64 r2), .v (.int .i64 r3), .own 2, .own 3]) [.box 77 [.rd ⟨false, 5, (.int .u8), r4⟩, .v (.int .i64 r5), .ifc 79 (.ptr 1 0)], .box 83 [.v (.int .i64 r6), .v (.int .i64 r7)], .row ⟨true, 3, (.int .i64), r8⟩, .row ⟨true, 3, (.int .i64), r9⟩]) (fun r0 r1 r2 r3 r4 r5 r6 r7 => K (.agg [.v (.int .i64 r0), .v (.int .i64 r1), .v (.int .i64 r2), .v (.int .i64 r3), .own 1, .own 2]) [.box 77 [.rd ⟨false, 5, (.int .u8), r4⟩, .v (.int .i64 r5), .v (.nilIface)], .row ⟨true, 3, (.int .i64), r6⟩, .row ⟨true, 3, (.int .i64), r7⟩]) s o0 o0_1 o1 o1_1 o1_2 o1_3 o2 o3 o4 o4_1 o4_2 o4_3 o5 o6 := by kernel_rfl

theorem gstep_text_reader_read_none_20a (l_text_reader_want_none : LT_text_reader_want_none) (l_text_reader_want_fault : LT_text_reader_want_fault) (l_text_reader_number_fault : LT_text_reader_number_fault) (l_text_reader_number_none : LT_text_reader_number_none) {R : Type} (g : List Item → St → Option R) (K : AV → List O → Option R) (s x : Int) (o0 : List Int) (o0_1 o1 o1_1 o2 o2_1 o2_2 o2_3 : Int) (o3 o4 : List Int) (o5 o5_1 o5_2 o5_3 : Int) (o6 o7 : List Int) :
    runSeg Tryd.prog (T_text_reader_read @l_text_reader_want_none @l_text_reader_want_fault @l_text_reader_number_fault @l_text_reader_number_none) cuts_text_reader_read_none 1 g (finish Tryd.prog Tryd.f38 1 K) (at' Tryd.f38 20) (sta_text_reader_read_none_20a s x o0 o0_1 o1 o1_1 o2 o2_1 o2_2 o2_3 o3 o4 o5 o5_1 o5_2 o5_3 o6 o7) =
    (fun (g38_15 : GT_text_reader_read_none_15a R) (g38_15b : GT_text_reader_read_none_15b R) (g38_19 : GT_text_reader_read_none_19a R) (g38_19b : GT_text_reader_read_none_19b R) (g38_20 : GT_text_reader_read_none_20a R) (g38_20b : GT_text_reader_read_none_20b R) (g38_25 : GT_text_reader_read_none_25a R) (g38_25b : GT_text_reader_read_none_25b R) (g38_21 : GT_text_reader_read_none_21a R) (g38_21b : GT_text_reader_read_none_21b R) (K0 : Int → Int → Int → Int → (List Int) → Int → Int → Int → (List Int) → (List Int) → Option R) (K1 : Int → Int → Int → Int → (List Int) → Int → (List Int) → (List Int) → Option R) (s x : Int) (o0 : List Int) (o0_1 o1 o1_1 o2 o2_1 o2_2 o2_3 : Int) (o3 o4 : List Int) (o5 o5_1 o5_2 o5_3 : Int) (o6 o7 : List Int) =>
    bi (decide (x < o5_1))
     (l_text_reader_want_fault (ByteArray.mk #[10]) o0 o0_1 o1 o1_1
      (fun r306 r307 r308 r309 =>
       g38_15 (IntKind.i64.wrap (s + 1)) r306 r307 r308 r309 o2 o2_1 o2_2 o2_3 o3 o4 o5 o5_1 o5_2 o5_3 o6 o7))
     (l_text_reader_want_fault (ByteArray.mk #[10]) o0 o0_1 o1 o1_1
      (fun r310 r311 r312 r313 =>
       g38_15 (IntKind.i64.wrap (s + 1)) r310 r311 r312 r313 o2 o2_1 o2_2 o2_3 o3 o4 o5 o5_1 o5_2 o5_3 o6 o7))) (gt_text_reader_read_none_15a g) (gt_text_reader_read_none_15b g) (gt_text_reader_read_none_19a g) (gt_text_reader_read_none_19b g) (gt_text_reader_read_none_20a g) (gt_text_reader_read_none_20b g) (gt_text_reader_read_none_25a g) (gt_text_reader_read_none_25b g) (gt_text_reader_read_none_21a g) (gt_text_reader_read_none_21b g) (fun r0 r1 r2 r3 r4 r5 r6 r7 r8 r9 => K (.agg [.v (.int .i64 r0), .v (.int .i64 r1), .v (.int .i64 r2), .v (.int .i64 r3), .own 2, .own 3]) [.box 77 [.rd ⟨false, 5, (.int .u8), r4⟩, .v (.int .i64 r5), .ifc 79 (.ptr 1 0)], .box 83 [.v (.int .i64 r6), .v (.int .i64 r7)], .row ⟨true, 3, (.int .i64), r8⟩, .row ⟨true, 3, (.int .i64), r9⟩]) (fun r0 r1 r2 r3 r4 r5 r6 r7 => K (.agg [.v (.int .i64 r0), .v (.int .i64 r1), .v (.int .i64 r2), .v (.int .i64 r3), .own 1, .own 2]) [.box 77 [.rd ⟨false, 5, (.int .u8), r4⟩, .v (.int .i64 r5), .v (.nilIface)], .row ⟨true, 3, (.int .i64), r6⟩, .row ⟨true, 3, (.int .i64), r7⟩]) s x o0 o0_1 o1 o1_1 o2 o2_1 o2_2 o2_3 o3 o4 o5 o5_1 o5_2 o5_3 o6 o7 := by kernel_rfl

theorem gstep_text_reader_read_none_20b (l_text_reader_want_none : LT_text_reader_want_none) (l_text_reader_want_fault : LT_text_reader_want_fault) (l_text_reader_number_fault : LT_text_reader_number_fault) (l_text_reader_number_none : LT_text_reader_number_none) {R : Type} (g : List Item → St → Option R) (K : AV → List O → Option R) (s x : Int) (o0 : List Int) (o0_1 o1 o1_1 o1_2 o1_3 : Int) (o2 o3 : List Int) (o4 o4_1 o4_2 o4_3 : Int) (o5 o6 : List Int) :
    runSeg Tryd.prog (T_text_reader_read @l_text_reader_want_none @l_text_reader_want_fault @l_text_reader_number_fault @l_text_reader_number_none) cuts_text_reader_read_none 1 g (finish Tryd.prog Tryd.f38 1 K) (at' Tryd.f38 20) (sta_text_reader_read_none_20b s x o0 o0_1 o1 o1_1 o1_2 o1_3 o2 o3 o4 o4_1 o4_2 o4_3 o5 o6) =
    (fun (g38_15 : GT_text_reader_read_none_15a R) (g38_15b : GT_text_reader_read_none_15b R) (g38_19 : GT_text_reader_read_none_19a R) (g38_19b : GT_text_reader_read_none_19b R) (g38_20 : GT_text_reader_read_none_20a R) (g38_20b : GT_text_reader_read_none_20b R) (g38_25 : GT_text_reader_read_none_25a R) (g38_25b : GT_text_reader_read_none_25b R) (g38_21 : GT_text_reader_read_none_21a R) (g38_21b : GT_text_reader_read_none_21b R) (K0 : Int → Int → Int → Int → (List Int) → Int → Int → Int → (List Int) → (List Int) → Option R) (K1 : Int → Int → Int → Int → (List Int) → Int → (List Int) → (List Int) → Option R) (s x : Int) (o0 : List Int) (o0_1 o1 o1_1 o1_2 o1_3 : Int) (o2 o3 : List Int) (o4 o4_1 o4_2 o4_3 : Int) (o5 o6 : List Int) =>
    bi (decide (x < o4_1))
     (bi (decide (x > 0))
      (l_text_reader_want_none (ByteArray.mk #[32]) o0 o0_1
       (fun r314 r315 r316 r317 =>
        both
         (l_text_reader_number_fault 0 (IntKind.i64.wrap (o4_3 - 1)) 32 r314 r315 r316 r317
          (fun r318 r319 r320 r321 r322 =>
           bi (decide ((o5.length + [r318].length) * 8 ≤ lim))
            (g38_25 s x r319 r320 r321 r322 o1 o1_1 o1_2 o1_3 o2 o3 o4 o4_1 o4_2 o4_3 (o5 ++ [r318]) o6)
            none))
         (l_text_reader_number_fault 0 (IntKind.i64.wrap (o4_3 - 1)) 32 r314 r315 r316 r317
          (fun r318 r319 r320 r321 r322 =>
           twice
            (bi (decide ((o5.length + [r318].length) * 8 ≤ lim))
             (g38_25 s x r319 r320 r321 r322 o1 o1_1 o1_2 o1_3 o2 o3 o4 o4_1 o4_2 o4_3 (o5 ++ [r318]) o6)
             none))))
       (fun r323 r324 =>
        both
         (l_text_reader_number_none 0 (IntKind.i64.wrap (o4_3 - 1)) 32 r323 r324
          (fun r325 r326 r327 r328 r329 =>
           bi (decide ((o5.length + [r325].length) * 8 ≤ lim))
            (g38_25 s x r326 r327 r328 r329 o1 o1_1 o1_2 o1_3 o2 o3 o4 o4_1 o4_2 o4_3 (o5 ++ [r325]) o6)
            none)
          (fun r330 r331 r332 =>
           bi (decide ((o5.length + [r330].length) * 8 ≤ lim))
            (g38_25b s x r331 r332 o1 o1_1 o1_2 o1_3 o2 o3 o4 o4_1 o4_2 o4_3 (o5 ++ [r330]) o6)
            none))
         (l_text_reader_number_none 0 (IntKind.i64.wrap (o4_3 - 1)) 32 r323 r324
          (fun r325 r326 r327 r328 r329 =>
           twice
            (bi (decide ((o5.length + [r325].length) * 8 ≤ lim))
             (g38_25 s x r326 r327 r328 r329 o1 o1_1 o1_2 o1_3 o2 o3 o4 o4_1 o4_2 o4_3 (o5 ++ [r325]) o6)
             none))
          (fun r330 r331 r332 =>
           twice
            (bi (decide ((o5.length + [r330].length) * 8 ≤ lim))
             (g38_25b s x r331 r332 o1 o1_1 o1_2 o1_3 o2 o3 o4 o4_1 o4_2 o4_3 (o5 ++ [r330]) o6)
             none)))))
      (bi (o4 == 1)
       (l_text_reader_want_none (ByteArray.mk #[32]) o0 o0_1
        (fun r333 r334 r335 r336 =>
         both
          (l_text_reader_number_fault 0 (IntKind.i64.wrap (o4_3 - 1)) 32 r333 r334 r335 r336
           (fun r337 r338 r339 r340 r341 =>
            bi (decide ((o5.length + [r337].length) * 8 ≤ lim))
             (g38_25 s x r338 r339 r340 r341 o1 o1_1 o1_2 o1_3 o2 o3 o4 o4_1 o4_2 o4_3 (o5 ++ [r337]) o6)
             none))
          (l_text_reader_number_fault 0 (IntKind.i64.wrap (o4_3 - 1)) 32 r333 r334 r335 r336
           (fun r337 r338 r339 r340 r341 =>
            twice
             (bi (decide ((o5.length + [r337].length) * 8 ≤ lim))
              (g38_25 s x r338 r339 r340 r341 o1 o1_1 o1_2 o1_3 o2 o3 o4 o4_1 o4_2 o4_3 (o5 ++ [r337]) o6)
              none))))
        (fun r342 r343 =>
         both
          (l_text_reader_number_none 0 (IntKind.i64.wrap (o4_3 - 1)) 32 r342 r343
           (fun r344 r345 r346 r347 r348 =>
            bi (decide ((o5.length + [r344].length) * 8 ≤ lim))
             (g38_25 s x r345 r346 r347 r348 o1 o1_1 o1_2 o1_3 o2 o3 o4 o4_1 o4_2 o4_3 (o5 ++ [r344]) o6)
             none)
           (fun r349 r350 r351 =>
            bi (decide ((o5.length + [r349].length) * 8 ≤ lim))
             (g38_25b s x r350 r351 o1 o1_1 o1_2 o1_3 o2 o3 o4 o4_1 o4_2 o4_3 (o5 ++ [r349]) o6)
             none))
          (l_text_reader_number_none 0 (IntKind.i64.wrap (o4_3 - 1)) 32 r342 r343
           (fun r344 r345 r346 r347 r348 =>
            twice
             (bi (decide ((o5.length + [r344].length) * 8 ≤ lim))
              (g38_25 s x r345 r346 r347 r348 o1 o1_1 o1_2 o1_3 o2 o3 o4 o4_1 o4_2 o4_3 (o5 ++ [r344]) o6)
              none))
           (fun r349 r350 r351 =>
            twice
             (bi (decide ((o5.length + [r349].length) * 8 ≤ lim))
              (g38_25b s x r350 r351 o1 o1_1 o1_2 o1_3 o2 o3 o4 o4_1 o4_2 o4_3 (o5 ++ [r349]) o6)
              none)))))
       (both
        (l_text_reader_number_none 0 (IntKind.i64.wrap (o4_3 - 1)) 32 o0 o0_1
         (fun r352 r353 r354 r355 r356 =>
          bi (decide ((o5.length + [r352].length) * 8 ≤ lim))
           (g38_25 s x r353 r354 r355 r356 o1 o1_1 o1_2 o1_3 o2 o3 o4 o4_1 o4_2 o4_3 (o5 ++ [r352]) o6)
           none)
         (fun r357 r358 r359 =>
          bi (decide ((o5.length + [r357].length) * 8 ≤ lim))
           (g38_25b s x r358 r359 o1 o1_1 o1_2 o1_3 o2 o3 o4 o4_1 o4_2 o4_3 (o5 ++ [r357]) o6)
           none))
        (l_text_reader_number_none 0 (IntKind.i64.wrap (o4_3 - 1)) 32 o0 o0_1
         (fun r352 r353 r354 r355 r356 =>
          twice
           (bi (decide ((o5.length + [r352].length) * 8 ≤ lim))
            (g38_25 s x r353 r354 r355 r356 o1 o1_1 o1_2 o1_3 o2 o3 o4 o4_1 o4_2 o4_3 (o5 ++ [r352]) o6)
            none))
         (fun r357 r358 r359 =>
          twice
           (bi (decide ((o5.length + [r357].length) * 8 ≤ lim))
            (g38_25b s x r358 r359 o1 o1_1 o1_2 o1_3 o2 o3 o4 o4_1 o4_2 o4_3 (o5 ++ [r357]) o6)
            none))))))
     (l_text_reader_want_none (ByteArray.mk #[10]) o0 o0_1
      (fun r360 r361 r362 r363 =>
       g38_15 (IntKind.i64.wrap (s + 1)) r360 r361 r362 r363 o1 o1_1 o1_2 o1_3 o2 o3 o4 o4_1 o4_2 o4_3 o5 o6)
      (fun r364 r365 =>
       g38_15b (IntKind.i64.wrap (s + 1)) r364 r365 o1 o1_1 o1_2 o1_3 o2 o3 o4 o4_1 o4_2 o4_3 o5 o6))) (gt_text_reader_read_none_15a g) (gt_text_reader_read_none_15b g) (gt_text_reader_read_none_19a g) (gt_text_reader_read_none_19b g) (gt_text_reader_read_none_20a g) (gt_text_reader_read_none_20b g) (gt_text_reader_read_none_25a g) (gt_text_reader_read_none_25b g) (gt_text_reader_read_none_21a g) (gt_text_reader_read_none_21b g) (fun r0 r1 r2 r3 r4 r5 r6 r7 r8 r9 => K (.agg [.v (.int .i64 r0), .v (.int .i64 r1), .v (.int .i64 r2), .v (.int .i64 r3), .own 2, .own 3]) [.box 77 [.rd ⟨false, 5, (.int .u8), r4⟩, .v (.int .i64 r5), .ifc 79 (.ptr 1 0)], .box 83 [.v (.int .i64 r6), .v (.int .i64 r7)], .row ⟨true, 3, (.int .i64), r8⟩, .row ⟨true, 3, (.int .i64), r9⟩]) (fun r0 r1 r2 r3 r4 r5 r6 r7 => K (.agg [.v (.int .i64 r0), .v (.int .i64 r1), .v (.int .i64 r2), .v (.int .i64 r3), .own 1, .own 2]) [.box 77 [.rd ⟨false, 5, (.int .u8), r4⟩, .v (.int .i64 r5), .v (.nilIface)], .row ⟨true, 3, (.int .i64), r6⟩, .row ⟨true, 3, (.int .i64), r7⟩]) s x o0 o0_1 o1 o1_1 o1_2 o1_3 o2 o3 o4 o4_1 o4_2 o4_3 o5 o6 := by kernel_rfl

theorem gstep_text_reader_read_none_25a (l_text_reader_want_none : LT_text_reader_want_none) (l_text_reader_want_fault : LT_text_reader_want_fault) (l_text_reader_number_fault : LT_text_reader_number_fault) (l_text_reader_number_none : LT_text_reader_number_none) {R : Type} (g : List Item → St → Option R) (K : AV → List O → Option R) (s x : Int) (o0 : List Int) (o0_1 o1 o1_1 o2 o2_1 o2_2 o2_3 : Int) (o3 o4 : List Int) (o5 o5_1 o5_2 o5_3 : Int) (o6 o7 : List Int) :
    runSeg Tryd.prog (T_text_reader_read @l_text_reader_want_none @l_text_reader_want_fault @l_text_reader_number_fault @l_text_reader_number_none) cuts_text_reader_read_none 1 g (finish Tryd.prog Tryd.f38 1 K) (at' Tryd.f38 25) (sta_text_reader_read_none_25a s x o0 o0_1 o1 o1_1 o2 o2_1 o2_2 o2_3 o3 o4 o5 o5_1 o5_2 o5_3 o6 o7) =
    (fun (g38_15 : GT_text_reader_read_none_15a R) (g38_15b : GT_text_reader_read_none_15b R) (g38_19 : GT_text_reader_read_none_19a R) (g38_19b : GT_text_reader_read_none_19b R) (g38_20 : GT_text_reader_read_none_20a R) (g38_20b : GT_text_reader_read_none_20b R) (g38_25 : GT_text_reader_read_none_25a R) (g38_25b : GT_text_reader_read_none_25b R) (g38_21 : GT_text_reader_read_none_21a R) (g38_21b : GT_text_reader_read_none_21b R) (K0 : Int → Int → Int → Int → (List Int) → Int → Int → Int → (List Int) → (List Int) → Option R) (K1 : Int → Int → Int → Int → (List Int) → Int → (List Int) → (List Int) → Option R) (s x : Int) (o0 : List Int) (o0_1 o1 o1_1 o2 o2_1 o2_2 o2_3 : Int) (o3 o4 : List Int) (o5 o5_1 o5_2 o5_3 : Int) (o6 o7 : List Int) =>
    bi (o5 == 2)
     (l_text_reader_want_fault (ByteArray.mk #[47]) o0 o0_1 o1 o1_1
      (fun r366 r367 r368 r369 =>
       both
        (l_text_reader_number_fault 0 (IntKind.i64.wrap (o5_2 - 1)) 33 r366 r367 r368 r369
         (fun r370 r371 r372 r373 r374 =>
          bi (decide ((o7.length + [r370].length) * 8 ≤ lim))
           (g38_21 s x r371 r372 r373 r374 o2 o2_1 o2_2 o2_3 o3 o4 o5 o5_1 o5_2 o5_3 o6 (o7 ++ [r370]))
           none))
        (l_text_reader_number_fault 0 (IntKind.i64.wrap (o5_2 - 1)) 33 r366 r367 r368 r369
         (fun r370 r371 r372 r373 r374 =>
          twice
           (bi (decide ((o7.length + [r370].length) * 8 ≤ lim))
            (g38_21 s x r371 r372 r373 r374 o2 o2_1 o2_2 o2_3 o3 o4 o5 o5_1 o5_2 o5_3 o6 (o7 ++ [r370]))
            none)))))
     (g38_21 s x o0 o0_1 o1 o1_1 o2 o2_1 o2_2 o2_3 o3 o4 o5 o5_1 o5_2 o5_3 o6 o7)) (gt_text_reader_read_none_15a g) (gt_text_reader_read_none_15b g) (gt_text_reader_read_none_19a g) (gt_text_reader_read_none_19b g) (gt_text_reader_read_none_20a g) (gt_text_reader_read_none_20b g) (gt_text_reader_read_none_25a g) (gt_text_reader_read_none_25b g) (gt_text_reader_read_none_21a g) (gt_text_reader_read_none_21b g) (fun r0 r1 r2 r3 r4 r5 r6 r7 r8 r9 => K (.agg [.v (.int .i64 r0), .v (.int .i64 r1), .v (.int .i64 r2), .v (.int .i64 r3), .own 2, .own 3]) [.box 77 [.rd ⟨false, 5, (.int .u8), r4⟩, .v (.int .i64 r5), .ifc 79 (.ptr 1 0)], .box 83 [.v (.int .i64 r6), .v (.int .i64 r7)], .row ⟨true, 3, (.int .i64), r8⟩, .row ⟨true, 3, (.int .i64), r9⟩]) (fun r0 r1 r2 r3 r4 r5 r6 r7 => K (.agg [.v (.int .i64 r0), .v (.int .i64 r1), .v (.int .i64 r2), .v (.int .i64 r3), .own 1, .own 2]) [.box 77 [.rd ⟨false, 5, (.int .u8), r4⟩, .v (.int .i64 r5), .v (.nilIface)], .row ⟨true, 3, (.int .i64), r6⟩, .row ⟨true, 3, (.int .i64), r7⟩]) s x o0 o0_1 o1 o1_1 o2 o2_1 o2_2 o2_3 o3 o4 o5 o5_1 o5_2 o5_3 o6 o7 := by kernel_rfl

theorem gstep_text_reader_read_none_25b (l_text_reader_want_none : LT_text_reader_want_none) (l_text_reader_want_fault : LT_text_reader_want_fault) (l_text_reader_number_fault : LT_text_reader_number_fault) (l_text_reader_number_none : LT_text_reader_number_none) {R : Type} (g : List Item → St → Option R) (K : AV → List O → Option R) (s x : Int) (o0 : List Int) (o0_1 o1 o1_1 o1_2 o1_3 : Int) (o2 o3 : List Int) (o4 o4_1 o4_2 o4_3 : Int) (o5 o6 : List Int) :
    runSeg Tryd.prog (T_text_reader_read @l_text_reader_want_none @l_text_reader_want_fault @l_text_reader_number_fault @l_text_reader_number_none) cuts_text_reader_read_none 1 g (finish Tryd.prog Tryd.f38 1 K) (at' Tryd.f38 25) (sta_text_reader_read_none_25b s x o0 o0_1 o1 o1_1 o1_2 o1_3 o2 o3 o4 o4_1 o4_2 o4_3 o5 o6) =
    (fun (g38_15 : GT_text_reader_read_none_15a R) (g38_15b : GT_text_reader_read_none_15b R) (g38_19 : GT_text_reader_read_none_19a R) (g38_19b : GT_text_reader_read_none_19b R) (g38_20 : GT_text_reader_read_none_20a R) (g38_20b : GT_text_reader_read_none_20b R) (g38_25 : GT_text_reader_read_none_25a R) (g38_25b : GT_text_reader_read_none_25b R) (g38_21 : GT_text_reader_read_none_21a R) (g38_21b : GT_text_reader_read_none_21b R) (K0 : Int → Int → Int → Int → (List Int) → Int → Int → Int → (List Int) → (List Int) → Option R) (K1 : Int → Int → Int → Int → (List Int) → Int → (List Int) → (List Int) → Option R) (s x : Int) (o0 : List Int) (o0_1 o1 o1_1 o1_2 o1_3 : Int) (o2 o3 : List Int) (o4 o4_1 o4_2 o4_3 : Int) (o5 o6 : List Int) =>
    bi (o4 == 2)
     (l_text_reader_want_none (ByteArray.mk #[47]) o0 o0_1
      (fun r375 r376 r377 r378 =>
       both
        (l_text_reader_number_fault 0 (IntKind.i64.wrap (o4_2 - 1)) 33 r375 r376 r377 r378
         (fun r379 r380 r381 r382 r383 =>
          bi (decide ((o6.length + [r379].length) * 8 ≤ lim))
           (g38_21 s x r380 r381 r382 r383 o1 o1_1 o1_2 o1_3 o2 o3 o4 o4_1 o4_2 o4_3 o5 (o6 ++ [r379]))
           none))
        (l_text_reader_number_fault 0 (IntKind.i64.wrap (o4_2 - 1)) 33 r375 r376 r377 r378
         (fun r379 r380 r381 r382 r383 =>
          twice
           (bi (decide ((o6.length + [r379].length) * 8 ≤ lim))
            (g38_21 s x r380 r381 r382 r383 o1 o1_1 o1_2 o1_3 o2 o3 o4 o4_1 o4_2 o4_3 o5 (o6 ++ [r379]))
            none))))
      (fun r384 r385 =>
       both
        (l_text_reader_number_none 0 (IntKind.i64.wrap (o4_2 - 1)) 33 r384 r385
         (fun r386 r387 r388 r389 r390 =>
          bi (decide ((o6.length + [r386].length) * 8 ≤ lim))
           (g38_21 s x r387 r388 r389 r390 o1 o1_1 o1_2 o1_3 o2 o3 o4 o4_1 o4_2 o4_3 o5 (o6 ++ [r386]))
           none)
         (fun r391 r392 r393 =>
          bi (decide ((o6.length + [r391].length) * 8 ≤ lim))
           (g38_21b s x r392 r393 o1 o1_1 o1_2 o1_3 o2 o3 o4 o4_1 o4_2 o4_3 o5 (o6 ++ [r391]))
           none))
        (l_text_reader_number_none 0 (IntKind.i64.wrap (o4_2 - 1)) 33 r384 r385
         (fun r386 r387 r388 r389 r390 =>
          twice
           (bi (decide ((o6.length + [r386].length) * 8 ≤ lim))
            (g38_21 s x r387 r388 r389 r390 o1 o1_1 o1_2 o1_3 o2 o3 o4 o4_1 o4_2 o4_3 o5 (o6 ++ [r386]))
            none))
         (fun r391 r392 r393 =>
          twice
           (bi (decide ((o6.length + [r391].length) * 8 ≤ lim))
            (g38_21b s x r392 r393 o1 o1_1 o1_2 o1_3 o2 o3 o4 o4_1 o4_2 o4_3 o5 (o6 ++ [r391]))
            none)))))
     (g38_21b s x o0 o0_1 o1 o1_1 o1_2 o1_3 o2 o3 o4 o4_1 o4_2 o4_3 o5 o6)) (gt_text_reader_read_none_15a g) (gt_text_reader_read_none_15b g) (gt_text_reader_read_none_19a g) (gt_text_reader_read_none_19b g) (gt_text_reader_read_none_20a g) (gt_text_reader_read_none_20b g) (gt_text_reader_read_none_25a g) (gt_text_reader_read_none_25b g) (gt_text_reader_read_none_21a g) (gt_text_reader_read_none_21b g) (fun r0 r1 r2 r3 r4 r5 r6 r7 r8 r9 => K (.agg [.v (.int .i64 r0), .v (.int .i64 r1), .v (.int .i64 r2), .v (.int .i64 r3), .own 2, .own 3]) [.box 77 [.rd ⟨false, 5, (.int .u8), r4⟩, .v (.int .i64 r5), .ifc 79 (.ptr 1 0)], .box 83 [.v (.int .i64 r6), .v (.int .i64 r7)], .row ⟨true, 3, (.int .i64), r8⟩, .row ⟨true, 3, (.int .i64), r9⟩]) (fun r0 r1 r2 r3 r4 r5 r6 r7 => K (.agg [.v (.int .i64 r0), .v (.int .i64 r1), .v (.int .i64 r2), .v (.int .i64 r3), .own 1, .own 2]) [.box 77 [.rd ⟨false, 5, (.int .u8), r4⟩, .v (.int .i64 r5), .v (.nilIface)], .row ⟨true, 3, (.int .i64), r6⟩, .row ⟨true, 3, (.int .i64), r7⟩]) s x o0 o0_1 o1 o1_1 o1_2 o1_3 o2 o3 o4 o4_1 o4_2 o4_3 o5 o6 := by kernel_rfl

theorem gstep_text_reader_read_none_21a (l_text_reader_want_none : LT_text_reader_want_none) (l_text_reader_want_fault : LT_text_reader_want_fault) (l_text_reader_number_fault : LT_text_reader_number_fault) (l_text_reader_number_none : LT_text_reader_number_none) {R : Type} (g : List Item → St → Option R) (K : AV → List O → Option R) (s x : Int) (o0 : List Int) (o0_1 o1 o1_1 o2 o2_1 o2_2 o2_3 : Int) (o3 o4 : List Int) (o5 o5_1 o5_2 o5_3 : Int) (o6 o7 : List Int) :
    runSeg Tryd.prog (T_text_reader_read @l_text_reader_want_none @l_text_reader_want_fault @l_text_reader_number_fault @l_text_reader_number_none) cuts_text_reader_read_none 1 g (finish Tryd.prog Tryd.f38 1 K) (at' Tryd.f38 21) (sta_text_reader_read_none_21a s x o0 o0_1 o1 o1_1 o2 o2_1 o2_2 o2_3 o3 o4 o5 o5_1 o5_2 o5_3 o6 o7) =
    (fun (g38_15 : GT_text_reader_read_none_15a R) (g38_15b : GT_text_reader_read_none_15b R) (g38_19 : GT_text_reader_read_none_19a R) (g38_19b : GT_text_reader_read_none_19b R) (g38_20 : GT_text_reader_read_none_20a R) (g38_20b : GT_text_reader_read_none_20b R) (g38_25 : GT_text_reader_read_none_25a R) (g38_25b : GT_text_reader_read_none_25b R) (g38_21 : GT_text_reader_read_none_21a R) (g38_21b : GT_text_reader_read_none_21b R) (K0 : Int → Int → Int → Int → (List Int) → Int → Int → Int → (List Int) → (List Int) → Option R) (K1 : Int → Int → Int → Int → (List Int) → Int → (List Int) → (List Int) → Option R) (s x : Int) (o0 : List Int) (o0_1 o1 o1_1 o2 o2_1 o2_2 o2_3 : Int) (o3 o4 : List Int) (o5 o5_1 o5_2 o5_3 : Int) (o6 o7 : List Int) =>
    g38_20 s (IntKind.i64.wrap (x + 1)) o0 o0_1 o1 o1_1 o2 o2_1 o2_2 o2_3 o3 o4 o5 o5_1 o5_2 o5_3 o6 o7) (gt_text_reader_read_none_15a g) (gt_text_reader_read_none_15b g) (gt_text_reader_read_none_19a g) (gt_text_reader_read_none_19b g) (gt_text_reader_read_none_20a g) (gt_text_reader_read_none_20b g) (gt_text_reader_read_none_25a g) (gt_text_reader_read_none_25b g) (gt_text_reader_read_none_21a g) (gt_text_reader_read_none_21b g) (fun r0 r1 r2 r3 r4 r5 r6 r7 r8 r9 => K (.agg [.v (.int .i64 r0), .v (.int .i64 r1), .v (.int .i64 r2), .v (.int .i64 r3), .own 2, .own 3]) [.box 77 [.rd ⟨false, 5, (.int .u8), r4⟩, .v (.int .i64 r5), .ifc 79 (.ptr 1 0)], .box 83 [.v (.int .i64 r6), .v (.int .i64 r7)], .row ⟨true, 3, (.int .i64), r8⟩, .row ⟨true, 3, (.int .i64), r9⟩]) (fun r0 r1 r2 r3 r4 r5 r6 r7 => K (.agg [.v (.int .i64 r0), .v (.int .i64 r1), .v (.int .i64 r2), .v (.int .i64 r3), .own 1, .own 2]) [.box 77 [.rd ⟨false, 5, (.int .u8), r4⟩, .v (.int .i64 r5), .v (.nilIface)], .row ⟨true, 3, (.int .i64), r6⟩, .row ⟨true, 3, (.int .i64), r7⟩]) s x o0 o0_1 o1 o1_1 o2 o2_1 o2_2 o2_3 o3 o4 o5 o5_1 o5_2 o5_3 o6 o7 := by kernel_rfl

theorem gstep_text_reader_read_none_21b (l_text_reader_want_none : LT_text_reader_want_none) (l_text_reader_want_fault : LT_text_reader_want_fault) (l_text_reader_number_fault : LT_text_reader_number_fault) (l_text_reader_number_none : LT_text_reader_number_none) {R : Type} (g : List Item → St → Option R) (K : AV → List O → Option R) (s x : Int) (o0 : List Int) (o0_1 o1 o1_1 o1_2 o1_3 : Int) (o2 o3 : List Int) (o4 o4_1 o4_2 o4_3 : Int) (o5 o6 : List Int) :
    runSeg Tryd.prog (T_text_reader_read @l_text_reader_want_none @l_text_reader_want_fault @l_text_reader_number_fault @l_text_reader_number_none) cuts_text_reader_read_none 1 g (finish Tryd.prog Tryd.f38 1 K) (at' Tryd.f38 21) (sta_text_reader_read_none_21b s x o0 o0_1 o1 o1_1 o1_2 o1_3 o2 o3 o4 o4_1 o4_2 o4_3 o5 o6) =
    (fun (g38_15 : GT_text_reader_read_none_15a R) (g38_15b : GT_text_reader_read_none_15b R) (g38_19 : GT_text_reader_read_none_19a R) (g38_19b : GT_text_reader_read_none_19b R) (g38_20 : GT_text_reader_read_none_20a R) (g38_20b : GT_text_reader_read_none_20b R) (g38_25 : GT_text_reader_read_none_25a R) (g38_25b : GT_text_reader_read_none_25b R) (g38_21 : GT_text_reader_read_none_21a R) (g38_21b : GT_text_reader_read_none_21b R) (K0 : Int → Int → Int → Int → (List Int) → Int → Int → Int → (List Int) → (List Int) → Option R) (K1 : Int → Int → Int → Int → (List Int) → Int → (List Int) → (List Int) → Option R) (s x : Int) (o0 : List Int) (o0_1 o1 o1_1 o1_2 o1_3 : Int) (o2 o3 : List Int) (o4 o4_1 o4_2 o4_3 : Int) (o5 o6 : List Int) =>
    g38_20b s (IntKind.i64.wrap (x + 1)) o0 o0_1 o1 o1_1 o1_2 o1_3 o2 o3 o4 o4_1 o4_2 o4_3 o5 o6) (gt_text_reader_read_none_15a g) (gt_text_reader_read_none_15b g) (gt_text_reader_read_none_19a g) (gt_text_reader_read_none_19b g) (gt_text_reader_read_none_20a g) (gt_text_reader_read_none_20b g) (gt_text_reader_read_none_25a g) (gt_text_reader_read_none_25b g) (gt_text_reader_read_none_21a g) (gt_text_reader_read_none_21b g) (fun r0 r1 r2 r3 r4 r5 r6 r7 r8 r9 => K (.agg [.v (.int .i64 r0), .v (.int .i64 r1), .v (.int .i64 r2), .v (.int .i64 r3), .own 2, .own 3]) [.box 77 [.rd ⟨false, 5, (.int .u8), r4⟩, .v (.int .i64 r5), .ifc 79 (.ptr 1 0)], .box 83 [.v (.int .i64 r6), .v (.int .i64 r7)], .row ⟨true, 3, (.int .i64), r8⟩, .row ⟨true, 3, (.int .i64), r9⟩]) (fun r0 r1 r2 r3 r4 r5 r6 r7 => K (.agg [.v (.int .i64 r0), .v (.int .i64 r1), .v (.int .i64 r2), .v (.int .i64 r3), .own 1, .own 2]) [.box 77 [.rd ⟨false, 5, (.int .u8), r4⟩, .v (.int .i64 r5), .v (.nilIface)], .row ⟨true, 3, (.int .i64), r6⟩, .row ⟨true, 3, (.int .i64), r7⟩]) s x o0 o0_1 o1 o1_1 o1_2 o1_3 o2 o3 o4 o4_1 o4_2 o4_3 o5 o6 := by kernel_rfl

theorem gentry_text_reader_read_none (l_text_reader_want_none : LT_text_reader_want_none) (l_text_reader_want_fault : LT_text_reader_want_fault) (l_text_reader_number_fault : LT_text_reader_number_fault) (l_text_reader_number_none : LT_text_reader_number_none) {R : Type} (fuel : Nat) (K : AV → List O → Option R) (o0 : List Int) (o0_1 : Int) :
    fnRun Tryd.prog (T_text_reader_read @l_text_reader_want_none @l_text_reader_want_fault @l_text_reader_number_fault @l_text_reader_number_none) cuts_text_reader_read_none Tryd.f38 fuel [.ptr 0 0] [.box 77 [.rd ⟨false, 5, (.int .u8), o0⟩, .v (.int .i64 o0_1), .v (.nilIface)]] K =
    (fun (g38_15 : GT_text_reader_read_none_15a R) (g38_15b : GT_text_reader_read_none_15b R) (g38_19 : GT_text_reader_read_none_19a R) (g38_19b : GT_text_reader_read_none_19b R) (g38_20 : GT_text_reader_read_none_20a R) (g38_20b : GT_text_reader_read_none_20b R) (g38_25 : GT_text_reader_read_none_25a R) (g38_25b : GT_text_reader_read_none_25b R) (g38_21 : GT_text_reader_read_none_21a R) (g38_21b : GT_text_reader_read_none_21b R) (K0 : Int → Int → Int → Int → (List Int) → Int → Int → Int → (List Int) → (List Int) → Option R) (K1 : Int → Int → Int → Int → (List Int) → Int → (List Int) → (List Int) → Option R) (o0 : List Int) (o0_1 : Int) =>
    bi (decide ((o0.length : Int) > 0))
     (bi (decide (0 ≤ (0 : Int) ∧ (0 : Int) < ((o0.length : Nat) : Int)))
      (bi ((o0.getD 0 0) == 109)
       (l_text_reader_want_none (ByteArray.mk #[109, 101, 97, 108, 121, 32]) o0 o0_1
        (fun r1 r2 r3 r4 =>
         l_text_reader_number_fault 1 64 1 r1 r2 r3 r4
          (fun r5 r6 r7 r8 r9 =>
           l_text_reader_want_fault (ByteArray.mk #[32]) r6 r7 r8 r9
            (fun r10 r11 r12 r13 =>
             l_text_reader_number_fault 1 64 33 r10 r11 r12 r13
              (fun r14 r15 r16 r17 r18 =>
               l_text_reader_want_fault (ByteArray.mk #[32]) r15 r16 r17 r18
                (fun r19 r20 r21 r22 =>
                 l_text_reader_number_fault 1 1024 3 r19 r20 r21 r22
                  (fun r23 r24 r25 r26 r27 =>
                   l_text_reader_want_fault (ByteArray.mk #[10]) r24 r25 r26 r27
                    (fun r28 r29 r30 r31 =>
                     g38_15 0 r28 r29 r30 r31 0 0 0 0 ([] : List Int) ([] : List Int) 2 r5 r14 r23 ([] : List Int) ([] : List Int))))))))
        (fun r32 r33 =>
         l_text_reader_number_none 1 64 1 r32 r33
          (fun r34 r35 r36 r37 r38 =>
           l_text_reader_want_fault (ByteArray.mk #[32]) r35 r36 r37 r38
            (fun r39 r40 r41 r42 =>
             l_text_reader_number_fault 1 64 33 r39 r40 r41 r42
              (fun r43 r44 r45 r46 r47 =>
               l_text_reader_want_fault (ByteArray.mk #[32]) r44 r45 r46 r47
                (fun r48 r49 r50 r51 =>
                 l_text_reader_number_fault 1 1024 3 r48 r49 r50 r51
                  (fun r52 r53 r54 r55 r56 =>
                   l_text_reader_want_fault (ByteArray.mk #[10]) r53 r54 r55 r56
                    (fun r57 r58 r59 r60 =>
                     g38_15 0 r57 r58 r59 r60 0 0 0 0 ([] : List Int) ([] : List Int) 2 r34 r43 r52 ([] : List Int) ([] : List Int)))))))
          (fun r61 r62 r63 =>
           l_text_reader_want_none (ByteArray.mk #[32]) r62 r63
            (fun r64 r65 r66 r67 =>
             l_text_reader_number_fault 1 64 33 r64 r65 r66 r67
              (fun r68 r69 r70 r71 r72 =>
               l_text_reader_want_fault (ByteArray.mk #[32]) r69 r70 r71 r72
                (fun r73 r74 r75 r76 =>
                 l_text_reader_number_fault 1 1024 3 r73 r74 r75 r76
                  (fun r77 r78 r79 r80 r81 =>
                   l_text_reader_want_fault (ByteArray.mk #[10]) r78 r79 r80 r81
                    (fun r82 r83 r84 r85 =>
                     g38_15 0 r82 r83 r84 r85 0 0 0 0 ([] : List Int) ([] : List Int) 2 r61 r68 r77 ([] : List Int) ([] : List Int))))))
            (fun r86 r87 =>
             l_text_reader_number_none 1 64 33 r86 r87
              (fun r88 r89 r90 r91 r92 =>
               l_text_reader_want_fault (ByteArray.mk #[32]) r89 r90 r91 r92
                (fun r93 r94 r95 r96 =>
                 l_text_reader_number_fault 1 1024 3 r93 r94 r95 r96
                  (fun r97 r98 r99 r100 r101 =>
                   l_text_reader_want_fault (ByteArray.mk #[10]) r98 r99 r100 r101
                    (fun r102 r103 r104 r105 =>
                     g38_15 0 r102 r103 r104 r105 0 0 0 0 ([] : List Int) ([] : List Int) 2 r61 r88 r97 ([] : List Int) ([] : List Int)))))
              (fun r106 r107 r108 =>
               l_text_reader_want_none (ByteArray.mk #[32]) r107 r108
                (fun r109 r110 r111 r112 =>
                 l_text_reader_number_fault 1 1024 3 r109 r110 r111 r112
                  (fun r113 r114 r115 r116 r117 =>
                   l_text_reader_want_fault (ByteArray.mk #[10]) r114 r115 r116 r117
                    (fun r118 r119 r120 r121 =>
                     g38_15 0 r118 r119 r120 r121 0 0 0 0 ([] : List Int) ([] : List Int) 2 r61 r106 r113 ([] : List Int) ([] : List Int))))
                (fun r122 r123 =>
                 l_text_reader_number_none 1 1024 3 r122 r123
                  (fun r124 r125 r126 r127 r128 =>
                   l_text_reader_want_fault (ByteArray.mk #[10]) r125 r126 r127 r128
                    (fun r129 r130 r131 r132 =>
                     g38_15 0 r129 r130 r131 r132 0 0 0 0 ([] : List Int) ([] : List Int) 2 r61 r106 r124 ([] : List Int) ([] : List Int)))
                  (fun r133 r134 r135 =>
                   l_text_reader_want_none (ByteArray.mk #[10]) r134 r135
                    (fun r136 r137 r138 r139 =>
                     g38_15 0 r136 r137 r138 r139 0 0 0 0 ([] : List Int) ([] : List Int) 2 r61 r106 r133 ([] : List Int) ([] : List Int))
                    (fun r140 r141 =>
                     g38_15b 0 r140 r141 0 0 0 0 ([] : List Int) ([] : List Int) 2 r61 r106 r133 ([] : List Int) ([] : List Int)))))))))
       (l_text_reader_want_none (ByteArray.mk #[100, 102, 97, 32]) o0 o0_1
        (fun r142 r143 r144 r145 =>
         l_text_reader_number_fault 1 64 1 r142 r143 r144 r145
          (fun r146 r147 r148 r149 r150 =>
           l_text_reader_want_fault (ByteArray.mk #[32]) r147 r148 r149 r150
            (fun r151 r152 r153 r154 =>
             l_text_reader_number_fault 1 1024 3 r151 r152 r153 r154
              (fun r155 r156 r157 r158 r159 =>
               l_text_reader_want_fault (ByteArray.mk #[10]) r156 r157 r158 r159
                (fun r160 r161 r162 r163 =>
                 g38_15 0 r160 r161 r162 r163 0 0 0 0 ([] : List Int) ([] : List Int) 1 r146 2 r155 ([] : List Int) ([] : List Int))))))
        (fun r164 r165 =>
         l_text_reader_number_none 1 64 1 r164 r165
          (fun r166 r167 r168 r169 r170 =>
           l_text_reader_want_fault (ByteArray.mk #[32]) r167 r168 r169 r170
            (fun r171 r172 r173 r174 =>
             l_text_reader_number_fault 1 1024 3 r171 r172 r173 r174
              (fun r175 r176 r177 r178 r179 =>
               l_text_reader_want_fault (ByteArray.mk #[10]) r176 r177 r178 r179
                (fun r180 r181 r182 r183 =>
                 g38_15 0 r180 r181 r182 r183 0 0 0 0 ([] : List Int) ([] : List Int) 1 r166 2 r175 ([] : List Int) ([] : List Int)))))
          (fun r184 r185 r186 =>
           l_text_reader_want_none (ByteArray.mk #[32]) r185 r186
            (fun r187 r188 r189 r190 =>
             l_text_reader_number_fault 1 1024 3 r187 r188 r189 r190
              (fun r191 r192 r193 r194 r195 =>
               l_text_reader_want_fault (ByteArray.mk #[10]) r192 r193 r194 r195
                (fun r196 r197 r198 r199 =>
                 g38_15 0 r196 r197 r198 r199 0 0 0 0 ([] : List Int) ([] : List Int) 1 r184 2 r191 ([] : List Int) ([] : List Int))))
            (fun r200 r201 =>
             l_text_reader_number_none 1 1024 3 r200 r201
              (fun r202 r203 r204 r205 r206 =>
               l_text_reader_want_fault (ByteArray.mk #[10]) r203 r204 r205 r206
                (fun r207 r208 r209 r210 =>
                 g38_15 0 r207 r208 r209 r210 0 0 0 0 ([] : List Int) ([] : List Int) 1 r184 2 r202 ([] : List Int) ([] : List Int)))
              (fun r211 r212 r213 =>
               l_text_reader_want_none (ByteArray.mk #[10]) r212 r213
                (fun r214 r215 r216 r217 =>
                 g38_15 0 r214 r215 r216 r217 0 0 0 0 ([] : List Int) ([] : List Int) 1 r184 2 r211 ([] : List Int) ([] : List Int))
                (fun r218 r219 =>
                 g38_15b 0 r218 r219 0 0 0 0 ([] : List Int) ([] : List Int) 1 r184 2 r211 ([] : List Int) ([] : List Int))))))))
      none)
     (l_text_reader_want_none (ByteArray.mk #[100, 102, 97, 32]) o0 o0_1
      (fun r220 r221 r222 r223 =>
       l_text_reader_number_fault 1 64 1 r220 r221 r222 r223
        (fun r224 r225 r226 r227 r228 =>
         l_text_reader_want_fault (ByteArray.mk #[32]) r225 r226 r227 r228
          (fun r229 r230 r231 r232 =>
           l_text_reader_number_fault 1 1024 3 r229 r230 r231 r232
            (fun r233 r234 r235 r236 r237 =>
             l_text_reader_want_fault (ByteArray.mk #[10]) r234 r235 r236 r237
              (fun r238 r239 r240 r241 =>
               g38_15 0 r238 r239 r240 r241 0 0 0 0 ([] : List Int) ([] : List Int) 1 r224 2 r233 ([] : List Int) ([] : List Int))))))
      (fun r242 r243 =>
       l_text_reader_number_none 1 64 1 r242 r243
        (fun r244 r245 r246 r247 r248 =>
         l_text_reader_want_fault (ByteArray.mk #[32]) r245 r246 r247 r248
          (fun r249 r250 r251 r252 =>
           l_text_reader_number_fault 1 1024 3 r249 r250 r251 r252
            (fun r253 r254 r255 r256 r257 =>
             l_text_reader_want_fault (ByteArray.mk #[10]) r254 r255 r256 r257
              (fun r258 r259 r260 r261 =>
               g38_15 0 r258 r259 r260 r261 0 0 0 0 ([] : List Int) ([] : List Int) 1 r244 2 r253 ([] : List Int) ([] : List Int)))))
        (fun r262 r263 r264 =>
         l_text_reader_want_none (ByteArray.mk #[32]) r263 r264
          (fun r265 r266 r267 r268 =>
           l_text_reader_number_fault 1 1024 3 r265 r266 r267 r268
            (fun r269 r270 r271 r272 r273 =>
             l_text_reader_want_fault (ByteArray.mk #[10]) r270 r271 r272 r273
              (fun r274 r275 r276 r277 =>
               g38_15 0 r274 r275 r276 r277 0 0 0 0 ([] : List Int) ([] : List Int) 1 r262 2 r269 ([] : List Int) ([] : List Int))))
          (fun r278 r279 =>
           l_text_reader_number_none 1 1024 3 r278 r279
            (fun r280 r281 r282 r283 r284 =>
             l_text_reader_want_fault (ByteArray.mk #[10]) r281 r282 r283 r284
              (fun r285 r286 r287 r288 =>
               g38_15 0 r285 r286 r287 r288 0 0 0 0 ([] : List Int) ([] : List Int) 1 r262 2 r280 ([] : List Int) ([] : List Int)))
            (fun r289 r290 r291 =>
             l_text_reader_want_none (ByteArray.mk #[10]) r290 r291
              (fun r292 r293 r294 r295 =>
               g38_15 0 r292 r293 r294 r295 0 0 0 0 ([] : List Int) ([] : List Int) 1 r262 2 r289 ([] : List Int) ([] : List Int))
              (fun r296 r297 =>
               g38_15b 0 r296 r297 0 0 0 0 ([] : List Int) ([] : List Int) 1 r262 2 r289 ([] : List Int) ([] : List Int)))))))) (gt_text_reader_read_none_15a (runO Tryd.prog (T_text_reader_read @l_text_reader_want_none @l_text_reader_want_fault @l_text_reader_number_fault @l_text_reader_number_none) cuts_text_reader_read_none 1 (finish Tryd.prog Tryd.f38 1 K) fuel)) (gt_text_reader_read_none_15b (runO Tryd.prog (T_text_reader_read @l_text_reader_want_none @l_text_reader_want_fault @l_text_reader_number_fault @l_text_reader_number_none) cuts_text_reader_read_none 1 (finish Tryd.prog Tryd.f38 1 K) fuel)) (gt_text_reader_read_none_19a (runO Tryd.prog (T_text_reader_read @l_text_reader_want_none @l_text_reader_want_fault @l_text_reader_number_fault @l_text_reader_number_none) cuts_text_reader_read_none 1 (finish Tryd.prog Tryd.f38 1 K) fuel)) (gt_text_reader_read_none_19b (runO Tryd.prog (T_text_reader_read @l_text_reader_want_none @l_text_reader_want_fault @l_text_reader_number_fault @l_text_reader_number_none) cuts_text_reader_read_none 1 (finish Tryd.prog Tryd.f38 1 K) fuel)) (gt_text_reader_read_none_20a (runO Tryd.prog (T_text_reader_read @l_text_reader_want_none @l_text_reader_want_fault @l_text_reader_number_fault @l_text_reader_number_none) cuts_text_reader_read_none 1 (finish Tryd.prog Tryd.f38 1 K) fuel)) (gt_text_reader_read_none_20b (runO Tryd.prog (T_text_reader_read @l_text_reader_want_none @l_text_reader_want_fault @l_text_reader_number_fault @l_text_reader_number_none) cuts_text_reader_read_none 1 (finish Tryd.prog Tryd.f38 1 K) fuel)) (gt_text_reader_read_none_25a (runO Tryd.prog (T_text_reader_read @l_text_reader_want_none @l_text_reader_want_fault @l_text_reader_number_fault @l_text_reader_number_none) cuts_text_reader_read_none 1 (finish Tryd.prog Tryd.f38 1 K) fuel)) (gt_text_reader_read_none_25b (runO Tryd.prog (T_text_reader_read @l_text_reader_want_none @l_text_reader_want_fault @l_text_reader_number_fault @l_text_reader_number_none) cuts_text_reader_read_none 1 (finish Tryd.prog Tryd.f38 1 K) fuel)) (gt_text_reader_read_none_21a (runO Tryd.prog (T_text_reader_read @l_text_reader_want_none @l_text_reader_want_fault @l_text_reader_number_fault @l_text_reader_number_none) cuts_text_reader_read_none 1 (finish Tryd.prog Tryd.f38 1 K) fuel)) (gt_text_reader_read_none_21b (runO Tryd.prog (T_text_reader_read @l_text_reader_want_none @l_text_reader_want_fault @l_text_reader_number_fault @l_text_reader_number_none) cuts_text_reader_read_none 1 (finish Tryd.prog Tryd.f38 1 K) fuel)) (fun r0 r1 r2 r3 r4 r5 r6 r7 r8 r9 => K (.agg [.v (.int .i64 r0), .v (.int .i64 r1), .v (.int .i64 r2), .v (.int .i64 r3), .own 2, .own 3]) [.box 77 [.rd ⟨false, 5, (.int .u8), r4⟩, .v (.int .i64 r5), .ifc 79 (.ptr 1 0)], .box 83 [.v (.int .i64 r6), .v (.int .i64 r7)], .row ⟨true, 3, (.int .i64), r8⟩, .row ⟨true, 3, (.int .i64), r9⟩]) (fun r0 r1 r2 r3 r4 r5 r6 r7 => K (.agg [.v (.int .i64 r0), .v (.int .i64 r1), .v (.int .i64 r2), .v (.int .i64 r3), .own 1, .own 2]) [.box 77 [.rd ⟨false, 5, (.int .u8), r4⟩, .v (.int .i64 r5), .v (.nilIface)], .row ⟨true, 3, (.int .i64), r6⟩, .row ⟨true, 3, (.int .i64), r7⟩]) o0 o0_1 := by kernel_rfl

theorem runs_text_reader_read_none {R : Type} (K : AV → List O → Option R) : ∀ fuel : Nat,
    (gt_text_reader_read_none_15a (runO Tryd.prog (T_text_reader_read @l_text_reader_want_none @l_text_reader_want_fault @l_text_reader_number_fault @l_text_reader_number_none) cuts_text_reader_read_none 1 (finish Tryd.prog Tryd.f38 1 K) fuel)) = (run_text_reader_read_none (fun r0 r1 r2 r3 r4 r5 r6 r7 r8 r9 => K (.agg [.v (.int .i64 r0), .v (.int .i64 r1), .v (.int .i64 r2), .v (.int .i64 r3), .own 2, .own 3]) [.box 77 [.rd ⟨false, 5, (.int .u8), r4⟩, .v (.int .i64 r5), .ifc 79 (.ptr 1 0)], .box 83 [.v (.int .i64 r6), .v (.int .i64 r7)], .row ⟨true, 3, (.int .i64), r8⟩, .row ⟨true, 3, (.int .i64), r9⟩]) (fun r0 r1 r2 r3 r4 r5 r6 r7 => K (.agg [.v (.int .i64 r0), .v (.int .i64 r1), .v (.int .i64 r2), .v (.int .i64 r3), .own 1, .own 2]) [.box 77 [.rd ⟨false, 5, (.int .u8), r4⟩, .v (.int .i64 r5), .v (.nilIface)], .row ⟨true, 3, (.int .i64), r6⟩, .row ⟨true, 3, (.int .i64), r7⟩]) fuel).1 ∧
    (gt_text_reader_read_none_15b (runO Tryd.prog (T_text_reader_read @l_text_reader_want_none @l_text_reader_want_fault @l_text_reader_number_fault @l_text_reader_number_none) cuts_text_reader_read_none 1 (finish Tryd.prog Tryd.f38 1 K) fuel)) = (run_text_reader_read_none (fun r0 r1 r2 r3 r4 r5 r6 r7 r8 r9 => K (.agg [.v (.int .i64 r0), .v (.int .i64 r1), .v (.int .i64 r2), .v (.int .i64 r3), .own 2, .own 3]) [.box 77 [.rd ⟨false, 5, (.int .u8), r4⟩, .v (.int .i64 r5), .ifc 79 (.ptr 1 0)], .box 83 [.v (.int .i64 r6), .v (.int .i64 r7)], .row ⟨true, 3, (.int .i64), r8⟩, .row ⟨true, 3, (.int .i64), r9⟩]) (fun r0 r1 r2 r3 r4 r5 r6 r7 => K (.agg [.v (.int .i64 r0), .v (.int .i64 r1), .v (.int .i64 r2), .v (.int .i64 r3), .own 1, .own 2]) [.box 77 [.rd ⟨false, 5, (.int .u8), r4⟩, .v (.int .i64 r5), .v (.nilIface)], .row ⟨true, 3, (.int .i64), r6⟩, .row ⟨true, 3, (.int .i64), r7⟩]) fuel).2.1 ∧
    (gt_text_reader_read_none_19a (runO Tryd.prog (T_text_reader_read @l_text_reader_want_none @l_text_reader_want_fault @l_text_reader_number_fault @l_text_reader_number_none) cuts_text_reader_read_none 1 (finish Tryd.prog Tryd.f38 1 K) fuel)) = (run_text_reader_read_none (fun r0 r1 r2 r3 r4 r5 r6 r7 r8 r9 => K (.agg [.v (.int .i64 r0), .v (.int .i64 r1), .v (.int .i64 r2), .v (.int .i64 r3), .own 2, .own 3]) [.box 77 [.rd ⟨false, 5, (.int .u8), r4⟩, .v (.int .i64 r5), .ifc 79 (.ptr 1 0)], .box 83 [.v (.int .i64 r6), .v (.int .i64 r7)], .row ⟨true, 3, (.int .i64), r8⟩, .row ⟨true, 3, (.int .i64), r9⟩]) (fun r0 r1 r2 r3 r4 r5 r6 r7 => K (.agg [.v (.int .i64 r0), .v (.int .i64 r1), .v (.int .i64 r2), .v (.int .i64 r3), .own 1, .own 2]) [.box 77 [.rd ⟨false, 5, (.int .u8), r4⟩, .v (.int .i64 r5), .v (.nilIface)], .row ⟨true, 3, (.int .i64), r6⟩, .row ⟨true, 3, (.int .i64), r7⟩]) fuel).2.2.1 ∧
    (gt_text_reader_read_none_19b (runO Tryd.prog (T_text_reader_read @l_text_reader_want_none @l_text_reader_want_fault @l_text_reader_number_fault @l_text_reader_number_none) cuts_text_reader_read_none 1 (finish Tryd.prog Tryd.f38 1 K) fuel)) = (run_text_reader_read_none (fun r0 r1 r2 r3 r4 r5 r6 r7 r8 r9 => K (.agg [.v (.int .i64 r0), .v (.int .i64 r1), .v (.int .i64 r2), .v (.int .i64 r3), .own 2, .own 3]) [.box 77 [.rd ⟨false, 5, (.int .u8), r4⟩, .v (.int .i64 r5), .ifc 79 (.ptr 1 0)], .box 83 [.v (.int .i64 r6), .v (.int .i64 r7)], .row ⟨true, 3, (.int .i64), r8⟩, .row ⟨true, 3, (.int .i64), r9⟩]) (fun r0 r1 r2 r3 r4 r5 r6 r7 => K (.agg [.v (.int .i64 r0), .v (.int .i64 r1), .v (.int .i64 r2), .v (.int .i64 r3), .own 1, .own 2]) [.box 77 [.rd ⟨false, 5, (.int .u8), r4⟩, .v (.int .i64 r5), .v (.nilIface)], .row ⟨true, 3, (.int .i64), r6⟩, .row ⟨true, 3, (.int .i64), r7⟩]) fuel).2.2.2.1 ∧
    (gt_text_reader_read_none_20a (runO Tryd.prog (T_text_reader_read @l_text_reader_want_none @l_text_reader_want_fault @l_text_reader_number_fault @l_text_reader_number_none) cuts_text_reader_read_none 1 (finish Tryd.prog Tryd.f38 1 K) fuel)) = (run_text_reader_read_none (fun r0 r1 r2 r3 r4 r5 r6 r7 r8 r9 => K (.agg [.v (.int .i64 r0), .v (.int .i64 r1), .v (.int .i64 r2), .v (.int .i64 r3), .own 2, .own 3]) [.box 77 [.rd ⟨false, 5, (.int .u8), r4⟩, .v (.int .i64 r5), .ifc 79 (.ptr 1 0)], .box 83 [.v (.int .i64 r6), .v (.int .i64 r7)], .row ⟨true, 3, (.int .i64), r8⟩, .row ⟨true, 3, (.int .i64), r9⟩]) (fun r0 r1 r2 r3 r4 r5 r6 r7 => K (.agg [.v (.int .i64 r0), .v (.int .i64 r1), .v (.int .i64 r2), .v (.int .i64 r3), .own 1, .own 2]) [.box 77 [.rd ⟨false, 5, (.int .u8), r4⟩, .v (.int .i64 r5), .v (.nilIface)], .row ⟨true, 3, (.int .i64), r6⟩, .row ⟨true, 3, (.int .i64), r7⟩]) fuel).2.2.2.2.1 ∧
    (gt_text_reader_read_none_20b (runO Tryd.prog (T_text_reader_read @l_text_reader_want_none @l_text_reader_want_fault @l_text_reader_number_fault @l_text_reader_number_none) cuts_text_reader_read_none 1 (finish Tryd.prog Tryd.f38 1 K) fuel)) = (run_text_reader_read_none (fun r0 r1 r2 r3 r4 r5 r6 r7 r8 r9 => K (.agg [.v (.int .i64 r0), .v (.int .i64 r1), .v (.int .i64 r2), .v (.int .i64 r3), .own 2, .own 3]) [.box 77 [.rd ⟨false, 5, (.int .u8), r4⟩, .v (.int .i64 r5), .ifc 79 (.ptr 1 0)], .box 83 [.v (.int .i64 r6), .v (.int .i64 r7)], .row ⟨true, 3, (.int .i64), r8⟩, .row ⟨true, 3, (.int .i64), r9⟩]) (fun r0 r1 r2 r3 r4 r5 r6 r7 => K (.agg [.v (.int .i64 r0), .v (.int .i64 r1), .v (.int .i64 r2), .v (.int .i64 r3), .own 1, .own 2]) [.box 77 [.rd ⟨false, 5, (.int .u8), r4⟩, .v (.int .i64 r5), .v (.nilIface)], .row ⟨true, 3, (.int .i64), r6⟩, .row ⟨true, 3, (.int .i64), r7⟩]) fuel).2.2.2.2.2.1 ∧
    (gt_text_reader_read_none_25a (runO Tryd.prog (T_text_reader_read @l_text_reader_want_none @l_text_reader_want_fault @l_text_reader_number_fault @l_text_reader_number_none) cuts_text_reader_read_none 1 (finish Tryd.prog Tryd.f38 1 K) fuel)) = (run_text_reader_read_none (fun r0 r1 r2 r3 r4 r5 r6 r7 r8 r9 => K (.agg [.v (.int .i64 r0), .v (.int .i64 r1), .v (.int .i64 r2), .v (.int .i64 r3), .own 2, .own 3]) [.box 77 [.rd ⟨false, 5, (.int .u8), r4⟩, .v (.int .i64 r5), .ifc 79 (.ptr 1 0)], .box 83 [.v (.int .i64 r6), .v (.int .i64 r7)], .row ⟨true, 3, (.int .i64), r8⟩, .row ⟨true, 3, (.int .i64), r9⟩]) (fun r0 r1 r2 r3 r4 r5 r6 r7 => K (.agg [.v (.int .i64 r0), .v (.int .i64 r1), .v (.int .i64 r2), .v (.int .i64 r3), .own 1, .own 2]) [.box 77 [.rd ⟨false, 5, (.int .u8), r4⟩, .v (.int .i64 r5), .v (.nilIface)], .row ⟨true, 3, (.int .i64), r6⟩, .row ⟨true, 3, (.int .i64), r7⟩]) fuel).2.2.2.2.2.2.1 ∧
    (gt_text_reader_read_none_25b (runO Tryd.prog (T_text_reader_read @l_text_reader_want_none @l_text_reader_want_fault @l_text_reader_number_fault @l_text_reader_number_none) cuts_text_reader_read_none 1 (finish Tryd.prog Tryd.f38 1 K) fuel)) = (run_text_reader_read_none (fun r0 r1 r2 r3 r4 r5 r6 r7 r8 r9 => K (.agg [.v (.int .i64 r0), .v (.int .i64 r1), .v (.int .i64 r2), .v (.int .i64 r3), .own 2, .own 3]) [.box 77 [.rd ⟨false, 5, (.int .u8), r4⟩, .v (.int .i64 r5), .ifc 79 (.ptr 1 0)], .box 83 [.v (.int .i64 r6), .v (.int .i64 r7)], .row ⟨true, 3, (.int .i64), r8⟩, .row ⟨true, 3, (.int .i64), r9⟩]) (fun r0 r1 r2 r3 r4 r5 r6 r7 => K (.agg [.v (.int .i64 r0), .v (.int .i64 r1), .v (.int .i64 r2), .v (.int .i64 r3), .own 1, .own 2]) [.box 77 [.rd ⟨false, 5, (.int .u8), r4⟩, .v (.int .i64 r5), .v (.nilIface)], .row ⟨true, 3, (.int .i64), r6⟩, .row ⟨true, 3, (.int .i64), r7⟩]) fuel).2.2.2.2.2.2.2.1 ∧
    (gt_text_reader_read_none_21a (runO Tryd.prog (T_text_reader_read @l_text_reader_want_none @l_text_reader_want_fault @l_text_reader_number_fault @l_text_reader_number_none) cuts_text_reader_read_none 1 (finish Tryd.prog Tryd.f38 1 K) fuel)) = (run_text_reader_read_none (fun r0 r1 r2 r3 r4 r5 r6 r7 r8 r9 => K (.agg [.v (.int .i64 r0), .v (.int .i64 r1), .v (.int .i64 r2), .v (.int .i64 r3), .own 2, .own 3]) [.box 77 [.rd ⟨false, 5, (.int .u8), r4⟩, .v (.int .i64 r5), .ifc 79 (.ptr 1 0)], .box 83 [.v (.int .i64 r6), .v (.int .i64 r7)], .row ⟨true, 3, (.int .i64), r8⟩, .row ⟨true, 3, (.int .i64), r9⟩]) (fun r0 r1 r2 r3 r4 r5 r6 r7 => K (.agg [.v (.int .i64 r0), .v (.int .i64 r1), .v (.int .i64 r2), .v (.int .i64 r3), .own 1, .own 2]) [.box 77 [.rd ⟨false, 5, (.int .u8), r4⟩, .v (.int .i64 r5), .v (.nilIface)], .row ⟨true, 3, (.int .i64), r6⟩, .row ⟨true, 3, (.int .i64), r7⟩]) fuel).2.2.2.2.2.2.2.2.1 ∧
    (gt_text_reader_read_none_21b (runO Tryd.prog (T_text_reader_read @l_text_reader_want_none @l_text_reader_want_fault @l_text_reader_number_fault @l_text_reader_number_none) cuts_text_reader_read_none 1 (finish Tryd.prog Tryd.f38 1 K) fuel)) = (run_text_reader_read_none (fun r0 r1 r2 r3 r4 r5 r6 r7 r8 r9 => K (.agg [.v (.int .i64 r0), .v (.int .i64 r1), .v (.int .i64 r2), .v (.int .i64 r3), .own 2, .own 3]) [.box 77 [.rd ⟨false, 5, (.int .u8), r4⟩, .v (.int .i64 r5), .ifc 79 (.ptr 1 0)], .box 83 [.v (.int .i64 r6), .v (.int .i64 r7)], .row ⟨true, 3, (.int .i64), r8⟩, .row ⟨true, 3, (.int .i64), r9⟩]) (fun r0 r1 r2 r3 r4 r5 r6 r7 => K (.agg [.v (.int .i64 r0), .v (.int .i64 r1), .v (.int .i64 r2), .v (.int .i64 r3), .own 1, .own 2]) [.box 77 [.rd ⟨false, 5, (.int .u8), r4⟩, .v (.int .i64 r5), .v (.nilIface)], .row ⟨true, 3, (.int .i64), r6⟩, .row ⟨true, 3, (.int .i64), r7⟩]) fuel).2.2.2.2.2.2.2.2.2
  | 0 => ⟨rfl, rfl, rfl, rfl, rfl, rfl, rfl, rfl, rfl, rfl⟩
  | fuel + 1 => by
    have ih := runs_text_reader_read_none K fuel
    refine ⟨?_, ?_, ?_, ?_, ?_, ?_, ?_, ?_, ?_, ?_⟩
    · funext s o0 o0_1 o1 o1_1 o2 o2_1 o2_2 o2_3 o3 o4 o5 o5_1 o5_2 o5_3 o6 o7
      refine (gstep_text_reader_read_none_15a @l_text_reader_want_none @l_text_reader_want_fault @l_text_reader_number_fault @l_text_reader_number_none _ K s o0 o0_1 o1 o1_1 o2 o2_1 o2_2 o2_3 o3 o4 o5 o5_1 o5_2 o5_3 o6 o7).trans ?_
      rw [ih.1, ih.2.1, ih.2.2.1, ih.2.2.2.1, ih.2.2.2.2.1, ih.2.2.2.2.2.1, ih.2.2.2.2.2.2.1, ih.2.2.2.2.2.2.2.1, ih.2.2.2.2.2.2.2.2.1, ih.2.2.2.2.2.2.2.2.2]
      rfl
    · funext s o0 o0_1 o1 o1_1 o1_2 o1_3 o2 o3 o4 o4_1 o4_2 o4_3 o5 o6
      refine (gstep_text_reader_read_none_15b @l_text_reader_want_none @l_text_reader_want_fault @l_text_reader_number_fault @l_text_reader_number_none _ K s o0 o0_1 o1 o1_1 o1_2 o1_3 o2 o3 o4 o4_1 o4_2 o4_3 o5 o6).trans ?_
      rw [ih.1, ih.2.1, ih.2.2.1, ih.2.2.2.1, ih.2.2.2.2.1, ih.2.2.2.2.2.1, ih.2.2.2.2.2.2.1, ih.2.2.2.2.2.2.2.1, ih.2.2.2.2.2.2.2.2.1, ih.2.2.2.2.2.2.2.2.2]
      rfl
    · funext s o0 o0_1 o1 o1_1 o2 o2_1 o2_2 o2_3 o3 o4 o5 o5_1 o5_2 o5_3 o6 o7
      refine (gstep_text_reader_read_none_19a @l_text_reader_want_none @l_text_reader_want_fault @l_text_reader_number_fault @l_text_reader_number_none _ K s o0 o0_1 o1 o1_1 o2 o2_1 o2_2 o2_3 o3 o4 o5 o5_1 o5_2 o5_3 o6 o7).trans ?_
      rw [ih.1, ih.2.1, ih.2.2.1, ih.2.2.2.1, ih.2.2.2.2.1, ih.2.2.2.2.2.1, ih.2.2.2.2.2.2.1, ih.2.2.2.2.2.2.2.1, ih.2.2.2.2.2.2.2.2.1, ih.2.2.2.2.2.2.2.2.2]
      rfl
    · funext s o0 o0_1 o1 o1_1 o1_2 o1_3 o2 o3 o4 o4_1 o4_2 o4_3 o5 o6
      refine (gstep_text_reader_read_none_19b @l_text_reader_want_none @l_text_reader_want_fault @l_text_reader_number_fault @l_text_reader_number_none _ K s o0 o0_1 o1 o1_1 o1_2 o1_3 o2 o3 o4 o4_1 o4_2 o4_3 o5 o6).trans ?_
      rw [ih.1, ih.2.1, ih.2.2.1, ih.2.2.2.1, ih.2.2.2.2.1, ih.2.2.2.2.2.1, ih.2.2.2.2.2.2.1, ih.2.2.2.2.2.2.2.1, ih.2.2.2.2.2.2.2.2.1, ih.2.2.2.2.2.2.2.2.2]
      rfl
    · funext s x o0 o0_1 o1 o1_1 o2 o2_1 o2_2 o2_3 o3 o4 o5 o5_1 o5_2 o5_3 o6 o7
      refine (gstep_text_reader_read_none_20a @l_text_reader_want_none @l_text_reader_want_fault @l_text_reader_number_fault @l_text_reader_number_none _ K s x o0 o0_1 o1 o1_1 o2 o2_1 o2_2 o2_3 o3 o4 o5 o5_1 o5_2 o5_3 o6 o7).trans ?_
      rw [ih.1, ih.2.1, ih.2.2.1, ih.2.2.2.1, ih.2.2.2.2.1, ih.2.2.2.2.2.1, ih.2.2.2.2.2.2.1, ih.2.2.2.2.2.2.2.1, ih.2.2.2.2.2.2.2.2.1, ih.2.2.2.2.2.2.2.2.2]
      rfl
    · funext s x o0 o0_1 o1 o1_1 o1_2 o1_3 o2 o3 o4 o4_1 o4_2 o4_3 o5 o6
      refine (gstep_text_reader_read_none_20b @l_text_reader_want_none @l_text_reader_want_fault @l_text_reader_number_fault @l_text_reader_number_none _ K s x o0 o0_1 o1 o1_1 o1_2 o1_3 o2 o3 o4 o4_1 o4_2 o4_3 o5 o6).trans ?_
      rw [ih.1, ih.2.1, ih.2.2.1, ih.2.2.2.1, ih.2.2.2.2.1, ih.2.2.2.2.2.1, ih.2.2.2.2.2.2.1, ih.2.2.2.2.2.2.2.1, ih.2.2.2.2.2.2.2.2.1, ih.2.2.2.2.2.2.2.2.2]
      rfl
    · funext s x o0 o0_1 o1 o1_1 o2 o2_1 o2_2 o2_3 o3 o4 o5 o5_1 o5_2 o5_3 o6 o7
      refine (gstep_text_reader_read_none_25a @l_text_reader_want_none @l_text_reader_want_fault @l_text_reader_number_fault @l_text_reader_number_none _ K s x o0 o0_1 o1 o1_1 o2 o2_1 o2_2 o2_3 o3 o4 o5 o5_1 o5_2 o5_3 o6 o7).trans ?_
      rw [ih.1, ih.2.1, ih.2.2.1, ih.2.2.2.1, ih.2.2.2.2.1, ih.2.2.2.2.2.1, ih.2.2.2.2.2.2.1, ih.2.2.2.2.2.2.2.1, ih.2.2.2.2.2.2.2.2.1, ih.2.2.2.2.2.2.2.2.2]
      rfl
    · funext s x o0 o0_1 o1 o1_1 o1_2 o1_3 o2 o3 o4 o4_1 o4_2 o4_3 o5 o6
      refine (gstep_text_reader_read_none_25b @l_text_reader_want_none @l_text_reader_want_fault @l_text_reader_number_fault @l_text_reader_number_none _ K s x o0 o0_1 o1 o1_1 o1_2 o1_3 o2 o3 o4 o4_1 o4_2 o4_3 o5 o6).trans ?_
      rw [ih.1, ih.2.1, ih.2.2.1, ih.2.2.2.1, ih.2.2.2.2.1, ih.2.2.2.2.2.1, ih.2.2.2.2.2.2.1, ih.2.2.2.2.2.2.2.1, ih.2.2.2.2.2.2.2.2.1, ih.2.2.2.2.2.2.2.2.2]
      rfl
    · funext s x o0 o0_1 o1 o1_1 o2 o2_1 o2_2 o2_3 o3 o4 o5 o5_1 o5_2 o5_3 o6 o7
      refine (gstep_text_reader_read_none_21a @l_text_reader_want_none @l_text_reader_want_fault @l_text_reader_number_fault @l_text_reader_number_none _ K s x o0 o0_1 o1 o1_1 o2 o2_1 o2_2 o2_3 o3 o4 o5 o5_1 o5_2 o5_3 o6 o7).trans ?_
      rw [ih.1, ih.2.1, ih.2.2.1, ih.2.2.2.1, ih.2.2.2.2.1, ih.2.2.2.2.2.1, ih.2.2.2.2.2.2.1, ih.2.2.2.2.2.2.2.1, ih.2.2.2.2.2.2.2.2.1, ih.2.2.2.2.2.2.2.2.2]
      rfl
    · funext s x o0 o0_1 o1 o1_1 o1_2 o1_3 o2 o3 o4 o4_1 o4_2 o4_3 o5 o6
      refine (gstep_text_reader_read_none_21b @l_text_reader_want_none @l_text_reader_want_fault @l_text_reader_number_fault @l_text_reader_number_none _ K s x o0 o0_1 o1 o1_1 o1_2 o1_3 o2 o3 o4 o4_1 o4_2 o4_3 o5 o6).trans ?_
      rw [ih.1, ih.2.1, ih.2.2.1, ih.2.2.2.1, ih.2.2.2.2.1, ih.2.2.2.2.2.1, ih.2.2.2.2.2.2.1, ih.2.2.2.2.2.2.2.1, ih.2.2.2.2.2.2.2.2.1, ih.2.2.2.2.2.2.2.2.2]
      rfl

def S_text_reader_read (l_text_reader_read_none : LT_text_reader_read_none) : Sum := ⟨[], fun {R} args ob K => match args, ob with
  | [.ptr 0 0], [.box 77 [.rd ⟨false, 5, (.int .u8), o0⟩, .v (.int .i64 o0_1), .v (.nilIface)]] => l_text_reader_read_none o0 o0_1 (fun r0 r1 r2 r3 r4 r5 r6 r7 r8 r9 => K (.agg [.v (.int .i64 r0), .v (.int .i64 r1), .v (.int .i64 r2), .v (.int .i64 r3), .own 2, .own 3]) [.box 77 [.rd ⟨false, 5, (.int .u8), r4⟩, .v (.int .i64 r5), .ifc 79 (.ptr 1 0)], .box 83 [.v (.int .i64 r6), .v (.int .i64 r7)], .row ⟨true, 3, (.int .i64), r8⟩, .row ⟨true, 3, (.int .i64), r9⟩]) (fun r0 r1 r2 r3 r4 r5 r6 r7 => K (.agg [.v (.int .i64 r0), .v (.int .i64 r1), .v (.int .i64 r2), .v (.int .i64 r3), .own 1, .own 2]) [.box 77 [.rd ⟨false, 5, (.int .u8), r4⟩, .v (.int .i64 r5), .v (.nilIface)], .row ⟨true, 3, (.int .i64), r6⟩, .row ⟨true, 3, (.int .i64), r7⟩])
  | _, _ => none⟩

theorem sound_text_reader_read : Sound Tryd.prog 38 (S_text_reader_read @l_text_reader_read_none) := by
  refine fn_sound (cuts := cuts_text_reader_read_none) (fn := Tryd.f38) (Γ := (T_text_reader_read @l_text_reader_want_none @l_text_reader_want_fault @l_text_reader_number_fault @l_text_reader_number_none)) wide right_T_text_reader_read Tryd.func38 fun {R} K r args ob h => ?_
  unfold S_text_reader_read at h
  dsimp only at h
  split at h
  · obtain ⟨n, hn⟩ := ok_text_reader_read_none _ _ _ _ h
    refine ⟨Nat.le_of_ble_eq_true (by kernel_rfl), n, (gentry_text_reader_read_none @l_text_reader_want_none @l_text_reader_want_fault @l_text_reader_number_fault @l_text_reader_number_none n K _ _).trans ?_⟩
    rw [(runs_text_reader_read_none K n).1, (runs_text_reader_read_none K n).2.1, (runs_text_reader_read_none K n).2.2.1, (runs_text_reader_read_none K n).2.2.2.1, (runs_text_reader_read_none K n).2.2.2.2.1, (runs_text_reader_read_none K n).2.2.2.2.2.1, (runs_text_reader_read_none K n).2.2.2.2.2.2.1, (runs_text_reader_read_none K n).2.2.2.2.2.2.2.1, (runs_text_reader_read_none K n).2.2.2.2.2.2.2.2.1, (runs_text_reader_read_none K n).2.2.2.2.2.2.2.2.2]
    exact hn
  · cases h

theorem call_text_reader_read : Callable Tryd.prog 38 := ⟨_, Tryd.func38, by kernel_rfl, by kernel_rfl⟩



def S_errors_As (l_errors_As_fault_nil : LT_errors_As_fault_nil) (l_errors_As_none_fault_nil : LT_errors_As_none_fault_nil) : Sum := ⟨[], fun {R} args ob K => match args, ob with
  | [.ifc 79 (.ptr 0 0), .ifc 81 (.ptr 1 0)], [.box 83 [.v (.int .i64 o0), .v (.int .i64 o0_1)], .box 79 [.v (.pointer none)]] => l_errors_As_fault_nil o0 o0_1 (fun r0 r1 => K (.v (.bool true)) [.box 83 [.v (.int .i64 r0), .v (.int .i64 r1)], .box 79 [.ptr 0 0]])
  | [.v (.nilIface), .ifc 81 (.ptr 0 0)], [.box 79 [.v (.pointer none)]] => l_errors_As_none_fault_nil  (K (.v (.bool false)) [.box 79 [.v (.pointer none)]])
  | _, _ => none⟩

theorem sound_errors_As : Sound Tryd.prog 39 (S_errors_As @l_errors_As_fault_nil @l_errors_As_none_fault_nil) := sound_errorsAs

theorem call_errors_As : Callable Tryd.prog 39 := ⟨_, Tryd.func39, by kernel_rfl, by kernel_rfl⟩

def T_text_Import (l_errors_As_fault_nil : LT_errors_As_fault_nil) (l_errors_As_none_fault_nil : LT_errors_As_none_fault_nil) (l_text_reader_read_none : LT_text_reader_read_none) : FuncId → Option Sum := (addS (addS G0 39 (S_errors_As @l_errors_As_fault_nil @l_errors_As_none_fault_nil)) 38 (S_text_reader_read @l_text_reader_read_none))

theorem right_T_text_Import : Right Tryd.prog (T_text_Import @l_errors_As_fault_nil @l_errors_As_none_fault_nil @l_text_reader_read_none) := (right_add (right_add right_G0 call_errors_As sound_errors_As) call_text_reader_read sound_text_reader_read)

abbrev cuts_text_Import : Cuts := []

theorem gentry_text_Import (l_errors_As_fault_nil : LT_errors_As_fault_nil) (l_errors_As_none_fault_nil : LT_errors_As_none_fault_nil) (l_text_reader_read_none : LT_text_reader_read_none) {R : Type} (K : AV → List O → Option R) (b : List Int) :
    fnRun Tryd.prog (T_text_Import @l_errors_As_fault_nil @l_errors_As_none_fault_nil @l_text_reader_read_none) cuts_text_Import Tryd.f19 0 [.rd ⟨false, 5, (.int .u8), b⟩] [] K =
    (fun (b : List Int) (K0 : Int → Int → Int → Int → Int → Int → (List Int) → (List Int) → Option R) =>
    bi (decide ((b.length : Int) > 16777216))
     (K0 0 0 0 0 2 0 ([] : List Int) ([] : List Int))
     (l_text_reader_read_none b 0
      (fun r1 r2 r3 r4 r5 r6 r7 r8 r9 r10 =>
       l_errors_As_fault_nil r7 r8
        (fun r11 r12 =>
         both
          (both
           (both
            (thrice
             (K0 0 0 0 0 r11 r12 ([] : List Int) ([] : List Int)))
            (both
             (twice
              (K0 0 0 0 0 r11 r12 ([] : List Int) ([] : List Int)))
             (K0 0 0 0 0 r11 r12 ([] : List Int) ([] : List Int))))
           (both
            (both
             (thrice
              (K0 0 0 0 0 r11 r12 ([] : List Int) ([] : List Int)))
             (both
              (twice
               (K0 0 0 0 0 r11 r12 ([] : List Int) ([] : List Int)))
              (both
               (twice
                (K0 0 0 0 0 r11 r12 ([] : List Int) ([] : List Int)))
               (K0 0 0 0 0 r11 r12 ([] : List Int) ([] : List Int)))))
            (twice
             (both
              (twice
               (K0 0 0 0 0 r11 r12 ([] : List Int) ([] : List Int)))
              (K0 0 0 0 0 r11 r12 ([] : List Int) ([] : List Int))))))
          (both
           (both
            (both
             (thrice
              (K0 0 0 0 0 r11 r12 ([] : List Int) ([] : List Int)))
             (both
              (twice
               (K0 0 0 0 0 r11 r12 ([] : List Int) ([] : List Int)))
              (both
               (twice
                (K0 0 0 0 0 r11 r12 ([] : List Int) ([] : List Int)))
               (K0 0 0 0 0 r11 r12 ([] : List Int) ([] : List Int)))))
            (both
             (both
              (twice
               (K0 0 0 0 0 r11 r12 ([] : List Int) ([] : List Int)))
              (K0 0 0 0 0 r11 r12 ([] : List Int) ([] : List Int)))
             (both
              (both
               (twice
                (K0 0 0 0 0 r11 r12 ([] : List Int) ([] : List Int)))
               (K0 0 0 0 0 r11 r12 ([] : List Int) ([] : List Int)))
              (K0 0 0 0 0 r11 r12 ([] : List Int) ([] : List Int)))))
           (both
            (twice
             (both
              (twice
               (K0 0 0 0 0 r11 r12 ([] : List Int) ([] : List Int)))
              (K0 0 0 0 0 r11 r12 ([] : List Int) ([] : List Int))))
            (both
             (both
              (twice
               (K0 0 0 0 0 r11 r12 ([] : List Int) ([] : List Int)))
              (K0 0 0 0 0 r11 r12 ([] : List Int) ([] : List Int)))
             (K0 0 0 0 0 r11 r12 ([] : List Int) ([] : List Int)))))))
      (fun r13 r14 r15 r16 r17 r18 r19 r20 =>
       l_errors_As_none_fault_nil
        (K0 r13 r14 r15 r16 0 (b.length : Int) r19 r20)))) b (fun r0 r1 r2 r3 r4 r5 r6 r7 => K (.tup [.agg [.v (.int .i64 r0), .v (.int .i64 r1), .v (.int .i64 r2), .v (.int .i64 r3), .own 0, .own 1], .v (.int .i64 r4), .v (.int .i64 r5)]) [.row ⟨true, 3, (.int .i64), r6⟩, .row ⟨true, 3, (.int .i64), r7⟩]) := by kernel_rfl

def S_text_Import (l_text_Import : LT_text_Import) : Sum := ⟨[], fun {R} args ob K => match args, ob with
  | [.rd ⟨false, 5, (.int .u8), b⟩], [] => l_text_Import b (fun r0 r1 r2 r3 r4 r5 r6 r7 => K (.tup [.agg [.v (.int .i64 r0), .v (.int .i64 r1), .v (.int .i64 r2), .v (.int .i64 r3), .own 0, .own 1], .v (.int .i64 r4), .v (.int .i64 r5)]) [.row ⟨true, 3, (.int .i64), r6⟩, .row ⟨true, 3, (.int .i64), r7⟩])
  | _, _ => none⟩

theorem sound_text_Import : Sound Tryd.prog 19 (S_text_Import @l_text_Import) := by
  refine fn_sound (cuts := cuts_text_Import) (fn := Tryd.f19) (Γ := (T_text_Import @l_errors_As_fault_nil @l_errors_As_none_fault_nil @l_text_reader_read_none)) wide right_T_text_Import Tryd.func19 fun {R} K r args ob h => ?_
  unfold S_text_Import at h
  dsimp only at h
  split at h
  · exact ⟨Nat.le_of_ble_eq_true (by kernel_rfl), 0, (gentry_text_Import @l_errors_As_fault_nil @l_errors_As_none_fault_nil @l_text_reader_read_none K _).trans h⟩
  · cases h

theorem call_text_Import : Callable Tryd.prog 19 := ⟨_, Tryd.func19, by kernel_rfl, by kernel_rfl⟩

def T_tutorlaw08_num : FuncId → Option Sum := G0

theorem right_T_tutorlaw08_num : Right Tryd.prog T_tutorlaw08_num := right_G0

abbrev cuts_tutorlaw08_num : Cuts := []

theorem gentry_tutorlaw08_num {R : Type} (K : AV → List O → Option R) (e : Int) :
    fnRun Tryd.prog T_tutorlaw08_num cuts_tutorlaw08_num Tryd.f17 0 [.v (.int .i64 e)] [] K =
    (fun (e : Int) (K0 : Int → Option R) =>
    K0 e) e (fun r0 => K (.v (.int .i64 r0)) []) := by kernel_rfl

def S_tutorlaw08_num (l_tutorlaw08_num : LT_tutorlaw08_num) : Sum := ⟨[], fun {R} args ob K => match args, ob with
  | [.v (.int .i64 e)], [] => l_tutorlaw08_num e (fun r0 => K (.v (.int .i64 r0)) [])
  | _, _ => none⟩

theorem sound_tutorlaw08_num : Sound Tryd.prog 17 (S_tutorlaw08_num @l_tutorlaw08_num) := by
  refine fn_sound (cuts := cuts_tutorlaw08_num) (fn := Tryd.f17) (Γ := T_tutorlaw08_num) wide right_T_tutorlaw08_num Tryd.func17 fun {R} K r args ob h => ?_
  unfold S_tutorlaw08_num at h
  dsimp only at h
  split at h
  · exact ⟨Nat.le_of_ble_eq_true (by kernel_rfl), 0, (gentry_tutorlaw08_num K _).trans h⟩
  · cases h

theorem call_tutorlaw08_num : Callable Tryd.prog 17 := ⟨_, Tryd.func17, by kernel_rfl, by kernel_rfl⟩

def T_tutorref01_Same : FuncId → Option Sum := G0

theorem right_T_tutorref01_Same : Right Tryd.prog T_tutorref01_Same := right_G0

abbrev cuts_tutorref01_Same : Cuts := [(4, [0, 1, 5])]

abbrev sta_tutorref01_Same_4 (a b : List Int) (i : Int) : St := ⟨fr0 26 [(0, .rd ⟨false, 3, (.int .i64), a⟩), (1, .rd ⟨false, 3, (.int .i64), b⟩), (5, .v (.int .i64 i))], []⟩

abbrev gt_tutorref01_Same_4 {R : Type} (g : List Item → St → Option R) : GT_tutorref01_Same_4 R := fun (a b : List Int) (i : Int) => g (at' Tryd.f37 4) (sta_tutorref01_Same_4 a b i)

theorem gstep_tutorref01_Same_4 {R : Type} (g : List Item → St → Option R) (K : AV → List O → Option R) (a b : List Int) (i : Int) :
    runSeg Tryd.prog T_tutorref01_Same cuts_tutorref01_Same 0 g (finish Tryd.prog Tryd.f37 0 K) (at' Tryd.f37 4) (sta_tutorref01_Same_4 a b i) =
    (fun (g37_4 : GT_tutorref01_Same_4 R) (K0 : Bool → Option R) (a b : List Int) (i : Int) =>
    bi (decide (i < (a.length : Int)))
     (bi (decide (0 ≤ i ∧ i < ((a.length : Nat) : Int)))
      (bi (decide (0 ≤ i ∧ i < ((b.length : Nat) : Int)))
       (bi ((a.getD i.toNat 0) != (b.getD i.toNat 0))
        (K0 false)
        (g37_4 a b (IntKind.i64.wrap (i + 1))))
       none)
      none)
     (K0 true)) (gt_tutorref01_Same_4 g) (fun r0 => K (.v (.bool r0)) []) a b i := by kernel_rfl

theorem gentry_tutorref01_Same {R : Type} (fuel : Nat) (K : AV → List O → Option R) (a b : List Int) :
    fnRun Tryd.prog T_tutorref01_Same cuts_tutorref01_Same Tryd.f37 fuel [.rd ⟨false, 3, (.int .i64), a⟩, .rd ⟨false, 3, (.int .i64), b⟩] [] K =
    (fun (g37_4 : GT_tutorref01_Same_4 R) (K0 : Bool → Option R) (a b : List Int) =>
    bi ((a.length : Int) != (b.length : Int))
     (K0 false)
     (g37_4 a b 0)) (gt_tutorref01_Same_4 (runO Tryd.prog T_tutorref01_Same cuts_tutorref01_Same 0 (finish Tryd.prog Tryd.f37 0 K) fuel)) (fun r0 => K (.v (.bool r0)) []) a b := by kernel_rfl

theorem runs_tutorref01_Same {R : Type} (K : AV → List O → Option R) : ∀ fuel : Nat,
    (gt_tutorref01_Same_4 (runO Tryd.prog T_tutorref01_Same cuts_tutorref01_Same 0 (finish Tryd.prog Tryd.f37 0 K) fuel)) = (run_tutorref01_Same (fun r0 => K (.v (.bool r0)) []) fuel)
  | 0 => rfl
  | fuel + 1 => by
    have ih := runs_tutorref01_Same K fuel
    funext a b i
    refine (gstep_tutorref01_Same_4 _ K a b i).trans ?_
    rw [ih]
    rfl

def S_tutorref01_Same (l_tutorref01_Same : LT_tutorref01_Same) : Sum := ⟨[], fun {R} args ob K => match args, ob with
  | [.rd ⟨false, 3, (.int .i64), a⟩, .rd ⟨false, 3, (.int .i64), b⟩], [] => l_tutorref01_Same a b (fun r0 => K (.v (.bool r0)) [])
  | _, _ => none⟩

theorem sound_tutorref01_Same : Sound Tryd.prog 37 (S_tutorref01_Same @l_tutorref01_Same) := by
  refine fn_sound (cuts := cuts_tutorref01_Same) (fn := Tryd.f37) (Γ := T_tutorref01_Same) wide right_T_tutorref01_Same Tryd.func37 fun {R} K r args ob h => ?_
  unfold S_tutorref01_Same at h
  dsimp only at h
  split at h
  · obtain ⟨n, hn⟩ := ok_tutorref01_Same _ _ _ h
    refine ⟨Nat.le_of_ble_eq_true (by kernel_rfl), n, (gentry_tutorref01_Same n K _ _).trans ?_⟩
    rw [(runs_tutorref01_Same K n)]
    exact hn
  · cases h

theorem call_tutorref01_Same : Callable Tryd.prog 37 := ⟨_, Tryd.func37, by kernel_rfl, by kernel_rfl⟩

def T_tutorref03_Same (l_tutorref01_Same : LT_tutorref01_Same) : FuncId → Option Sum := (addS G0 37 (S_tutorref01_Same @l_tutorref01_Same))

theorem right_T_tutorref03_Same : Right Tryd.prog (T_tutorref03_Same @l_tutorref01_Same) := (right_add right_G0 call_tutorref01_Same sound_tutorref01_Same)

abbrev cuts_tutorref03_Same : Cuts := []

theorem gentry_tutorref03_Same (l_tutorref01_Same : LT_tutorref01_Same) {R : Type} (K : AV → List O → Option R) (a a_1 a_2 a_3 : Int) (a_4 a_5 : List Int) (b b_1 b_2 b_3 : Int) (b_4 b_5 : List Int) :
    fnRun Tryd.prog (T_tutorref03_Same @l_tutorref01_Same) cuts_tutorref03_Same Tryd.f18 0 [.agg [.v (.int .i64 a), .v (.int .i64 a_1), .v (.int .i64 a_2), .v (.int .i64 a_3), .rd ⟨false, 3, (.int .i64), a_4⟩, .rd ⟨false, 3, (.int .i64), a_5⟩], .agg [.v (.int .i64 b), .v (.int .i64 b_1), .v (.int .i64 b_2), .v (.int .i64 b_3), .rd ⟨false, 3, (.int .i64), b_4⟩, .rd ⟨false, 3, (.int .i64), b_5⟩]] [] K =
    (fun (a a_1 a_2 a_3 : Int) (a_4 a_5 : List Int) (b b_1 b_2 b_3 : Int) (b_4 b_5 : List Int) (K0 : Bool → Option R) =>
    bi (a == b)
     (bi (a_1 == b_1)
      (bi (a_2 == b_2)
       (bi (a_3 == b_3)
        (l_tutorref01_Same a_4 b_4
         (fun r1 =>
          bi r1
           (l_tutorref01_Same a_5 b_5
            (fun r2 =>
             K0 r2))
           (K0 false)))
        (K0 false))
       (K0 false))
      (K0 false))
     (K0 false)) a a_1 a_2 a_3 a_4 a_5 b b_1 b_2 b_3 b_4 b_5 (fun r0 => K (.v (.bool r0)) []) := by kernel_rfl

def S_tutorref03_Same (l_tutorref03_Same : LT_tutorref03_Same) : Sum := ⟨[], fun {R} args ob K => match args, ob with
  | [.agg [.v (.int .i64 a), .v (.int .i64 a_1), .v (.int .i64 a_2), .v (.int .i64 a_3), .rd ⟨false, 3, (.int .i64), a_4⟩, .rd ⟨false, 3, (.int .i64), a_5⟩], .agg [.v (.int .i64 b), .v (.int .i64 b_1), .v (.int .i64 b_2), .v (.int .i64 b_3), .rd ⟨false, 3, (.int .i64), b_4⟩, .rd ⟨false, 3, (.int .i64), b_5⟩]], [] => l_tutorref03_Same a a_1 a_2 a_3 a_4 a_5 b b_1 b_2 b_3 b_4 b_5 (fun r0 => K (.v (.bool r0)) [])
  | _, _ => none⟩

theorem sound_tutorref03_Same : Sound Tryd.prog 18 (S_tutorref03_Same @l_tutorref03_Same) := by
  refine fn_sound (cuts := cuts_tutorref03_Same) (fn := Tryd.f18) (Γ := (T_tutorref03_Same @l_tutorref01_Same)) wide right_T_tutorref03_Same Tryd.func18 fun {R} K r args ob h => ?_
  unfold S_tutorref03_Same at h
  dsimp only at h
  split at h
  · exact ⟨Nat.le_of_ble_eq_true (by kernel_rfl), 0, (gentry_tutorref03_Same @l_tutorref01_Same K _ _ _ _ _ _ _ _ _ _ _ _).trans h⟩
  · cases h

theorem call_tutorref03_Same : Callable Tryd.prog 18 := ⟨_, Tryd.func18, by kernel_rfl, by kernel_rfl⟩

def T_tutorlaw08_live (l_tutorlaw08_num : LT_tutorlaw08_num) (l_tutorref03_Same : LT_tutorref03_Same) (l_text_Number : LT_text_Number) (l_text_Import : LT_text_Import) (l_text_Export : LT_text_Export) : FuncId → Option Sum := (addS (addS (addS (addS (addS G0 17 (S_tutorlaw08_num @l_tutorlaw08_num)) 18 (S_tutorref03_Same @l_tutorref03_Same)) 21 (S_text_Number @l_text_Number)) 19 (S_text_Import @l_text_Import)) 14 (S_text_Export @l_text_Export))

theorem right_T_tutorlaw08_live : Right Tryd.prog (T_tutorlaw08_live @l_tutorlaw08_num @l_tutorref03_Same @l_text_Number @l_text_Import @l_text_Export) := (right_add (right_add (right_add (right_add (right_add right_G0 call_tutorlaw08_num sound_tutorlaw08_num) call_tutorref03_Same sound_tutorref03_Same) call_text_Number sound_text_Number) call_text_Import sound_text_Import) call_text_Export sound_text_Export)

abbrev cuts_tutorlaw08_live : Cuts := []

theorem gentry_tutorlaw08_live (l_tutorlaw08_num : LT_tutorlaw08_num) (l_tutorref03_Same : LT_tutorref03_Same) (l_text_Number : LT_text_Number) (l_text_Import : LT_text_Import) (l_text_Export : LT_text_Export) {R : Type} (K : AV → List O → Option R)  :
    fnRun Tryd.prog (T_tutorlaw08_live @l_tutorlaw08_num @l_tutorref03_Same @l_text_Number @l_text_Import @l_text_Export) cuts_tutorlaw08_live Tryd.f12 0 [] [] K =
    (fun  (K0 : Bool → Option R) =>
    l_text_Export 1 1 2 2 [1, 0] [0, 1]
     (fun r1 r2 =>
      l_text_Import r2
       (fun r3 r4 r5 r6 r7 r8 r9 r10 =>
        bi (decide (0 < [100, 102, 97, 32, 49, 32, 49, 10, 50, 32, 48, 10].length))
         (l_text_Import [100, 102, 97, 32, 49, 32, 49, 10, 50, 32, 48, 10]
          (fun r11 r12 r13 r14 r15 r16 r17 r18 =>
           bi (decide (0 < [48, 52, 50].length))
            (l_text_Number [48, 52, 50] 0
             (fun r19 r20 r21 =>
              l_tutorlaw08_num r1
               (fun r22 =>
                l_tutorlaw08_num r7
                 (fun r23 =>
                  bi ((IntKind.i64.wrap (r22 + r23)) == 0)
                   (bi ((ofBts r2).toList == (ByteArray.mk #[100, 102, 97, 32, 49, 32, 50, 10, 48, 32, 49, 10, 49, 32, 48, 10]).toList)
                    (l_tutorref03_Same r3 r4 r5 r6 r9 r10 1 1 2 2 [1, 0] [0, 1]
                     (fun r24 =>
                      bi r24
                       (bi (r8 == 16)
                        (l_tutorlaw08_num r15
                         (fun r25 =>
                          bi (r25 == 33)
                           (bi (r16 == 8)
                            (l_tutorlaw08_num r21
                             (fun r26 =>
                              bi (r26 == 6)
                               (K0 (r20 == 1))
                               (K0 false)))
                            (K0 false))
                           (K0 false)))
                        (K0 false))
                       (K0 false)))
                    (K0 false))
                   (K0 false)))))
            none))
         none)))  (fun r0 => K (.v (.bool r0)) []) := by kernel_rfl

def S_tutorlaw08_live (l_tutorlaw08_live : LT_tutorlaw08_live) : Sum := ⟨[], fun {R} args ob K => match args, ob with
  | [], [] => l_tutorlaw08_live  (fun r0 => K (.v (.bool r0)) [])
  | _, _ => none⟩

theorem sound_tutorlaw08_live : Sound Tryd.prog 12 (S_tutorlaw08_live @l_tutorlaw08_live) := by
  refine fn_sound (cuts := cuts_tutorlaw08_live) (fn := Tryd.f12) (Γ := (T_tutorlaw08_live @l_tutorlaw08_num @l_tutorref03_Same @l_text_Number @l_text_Import @l_text_Export)) wide right_T_tutorlaw08_live Tryd.func12 fun {R} K r args ob h => ?_
  unfold S_tutorlaw08_live at h
  dsimp only at h
  split at h
  · exact ⟨Nat.le_of_ble_eq_true (by kernel_rfl), 0, (gentry_tutorlaw08_live @l_tutorlaw08_num @l_tutorref03_Same @l_text_Number @l_text_Import @l_text_Export K).trans h⟩
  · cases h

theorem call_tutorlaw08_live : Callable Tryd.prog 12 := ⟨_, Tryd.func12, by kernel_rfl, by kernel_rfl⟩

def T_tutorref08_word : FuncId → Option Sum := G0

theorem right_T_tutorref08_word : Right Tryd.prog T_tutorref08_word := right_G0

abbrev cuts_tutorref08_word : Cuts := [(2, [0, 1, 2, 8])]

abbrev sta_tutorref08_word_2 (b : List Int) (vat : Int) (s : ByteArray) (i : Int) : St := ⟨fr0 40 [(0, .rd ⟨false, 5, (.int .u8), b⟩), (1, .v (.int .i64 vat)), (2, .v (.string s)), (8, .v (.int .i64 i))], []⟩

abbrev gt_tutorref08_word_2 {R : Type} (g : List Item → St → Option R) : GT_tutorref08_word_2 R := fun (b : List Int) (vat : Int) (s : ByteArray) (i : Int) => g (at' Tryd.f55 2) (sta_tutorref08_word_2 b vat s i)

theorem gstep_tutorref08_word_2 {R : Type} (g : List Item → St → Option R) (K : AV → List O → Option R) (b : List Int) (vat : Int) (s : ByteArray) (i : Int) :
    runSeg Tryd.prog T_tutorref08_word cuts_tutorref08_word 0 g (finish Tryd.prog Tryd.f55 0 K) (at' Tryd.f55 2) (sta_tutorref08_word_2 b vat s i) =
    (fun (g55_2 : GT_tutorref08_word_2 R) (K0 : Int → Int → Option R) (b : List Int) (vat : Int) (s : ByteArray) (i : Int) =>
    bi (decide (i < (s.size : Int)))
     (bi (decide ((IntKind.i64.wrap (vat + i)) ≥ (b.length : Int)))
      (K0 (-1) (IntKind.i64.wrap (vat + i)))
      (bi (decide (0 ≤ (IntKind.i64.wrap (vat + i)) ∧ (IntKind.i64.wrap (vat + i)) < ((b.length : Nat) : Int)))
       (bi (decide (0 ≤ i ∧ i < ((s.size : Nat) : Int)))
        (bi ((b.getD ((IntKind.i64.wrap (vat + i)).toNat) 0) != ((s.data.toList.getD i.toNat 0).toNat : Int))
         (K0 (-1) (IntKind.i64.wrap (vat + i)))
         (g55_2 b vat s (IntKind.i64.wrap (i + 1))))
        none)
       none))
     (K0 (IntKind.i64.wrap (vat + (s.size : Int))) 0)) (gt_tutorref08_word_2 g) (fun r0 r1 => K (.tup [.v (.int .i64 r0), .v (.int .i64 r1)]) []) b vat s i := by kernel_rfl

theorem gentry_tutorref08_word {R : Type} (fuel : Nat) (K : AV → List O → Option R) (b : List Int) (vat : Int) (s : ByteArray) :
    fnRun Tryd.prog T_tutorref08_word cuts_tutorref08_word Tryd.f55 fuel [.rd ⟨false, 5, (.int .u8), b⟩, .v (.int .i64 vat), .v (.string s)] [] K =
    (fun (g55_2 : GT_tutorref08_word_2 R) (K0 : Int → Int → Option R) (b : List Int) (vat : Int) (s : ByteArray) =>
    g55_2 b vat s 0) (gt_tutorref08_word_2 (runO Tryd.prog T_tutorref08_word cuts_tutorref08_word 0 (finish Tryd.prog Tryd.f55 0 K) fuel)) (fun r0 r1 => K (.tup [.v (.int .i64 r0), .v (.int .i64 r1)]) []) b vat s := by kernel_rfl

theorem runs_tutorref08_word {R : Type} (K : AV → List O → Option R) : ∀ fuel : Nat,
    (gt_tutorref08_word_2 (runO Tryd.prog T_tutorref08_word cuts_tutorref08_word 0 (finish Tryd.prog Tryd.f55 0 K) fuel)) = (run_tutorref08_word (fun r0 r1 => K (.tup [.v (.int .i64 r0), .v (.int .i64 r1)]) []) fuel)
  | 0 => rfl
  | fuel + 1 => by
    have ih := runs_tutorref08_word K fuel
    funext b vat s i
    refine (gstep_tutorref08_word_2 _ K b vat s i).trans ?_
    rw [ih]
    rfl

def S_tutorref08_word (l_tutorref08_word : LT_tutorref08_word) : Sum := ⟨[], fun {R} args ob K => match args, ob with
  | [.rd ⟨false, 5, (.int .u8), b⟩, .v (.int .i64 vat), .v (.string s)], [] => l_tutorref08_word b vat s (fun r0 r1 => K (.tup [.v (.int .i64 r0), .v (.int .i64 r1)]) [])
  | _, _ => none⟩

theorem sound_tutorref08_word : Sound Tryd.prog 55 (S_tutorref08_word @l_tutorref08_word) := by
  refine fn_sound (cuts := cuts_tutorref08_word) (fn := Tryd.f55) (Γ := T_tutorref08_word) wide right_T_tutorref08_word Tryd.func55 fun {R} K r args ob h => ?_
  unfold S_tutorref08_word at h
  dsimp only at h
  split at h
  · obtain ⟨n, hn⟩ := ok_tutorref08_word _ _ _ _ h
    refine ⟨Nat.le_of_ble_eq_true (by kernel_rfl), n, (gentry_tutorref08_word n K _ _ _).trans ?_⟩
    rw [(runs_tutorref08_word K n)]
    exact hn
  · cases h

theorem call_tutorref08_word : Callable Tryd.prog 55 := ⟨_, Tryd.func55, by kernel_rfl, by kernel_rfl⟩

def T_tutorref08_Number : FuncId → Option Sum := G0

theorem right_T_tutorref08_Number : Right Tryd.prog T_tutorref08_Number := right_G0

abbrev cuts_tutorref08_Number : Cuts := [(4, [0, 1, 7]), (14, [0, 1, 7, 8, 9])]

abbrev sta_tutorref08_Number_4 (b : List Int) (vat k : Int) : St := ⟨fr0 83 [(0, .rd ⟨false, 5, (.int .u8), b⟩), (1, .v (.int .i64 vat)), (7, .v (.int .i64 k))], []⟩

abbrev gt_tutorref08_Number_4 {R : Type} (g : List Item → St → Option R) : GT_tutorref08_Number_4 R := fun (b : List Int) (vat k : Int) => g (at' Tryd.f22 4) (sta_tutorref08_Number_4 b vat k)

abbrev sta_tutorref08_Number_14 (b : List Int) (vat k n i : Int) : St := ⟨fr0 83 [(0, .rd ⟨false, 5, (.int .u8), b⟩), (1, .v (.int .i64 vat)), (7, .v (.int .i64 k)), (8, .v (.int .i64 n)), (9, .v (.int .i64 i))], []⟩

abbrev gt_tutorref08_Number_14 {R : Type} (g : List Item → St → Option R) : GT_tutorref08_Number_14 R := fun (b : List Int) (vat k n i : Int) => g (at' Tryd.f22 14) (sta_tutorref08_Number_14 b vat k n i)

theorem gstep_tutorref08_Number_4 {R : Type} (g : List Item → St → Option R) (K : AV → List O → Option R) (b : List Int) (vat k : Int) :
    runSeg Tryd.prog T_tutorref08_Number cuts_tutorref08_Number 0 g (finish Tryd.prog Tryd.f22 0 K) (at' Tryd.f22 4) (sta_tutorref08_Number_4 b vat k) =
    (fun (g22_4 : GT_tutorref08_Number_4 R) (g22_14 : GT_tutorref08_Number_14 R) (K0 : Int → Int → Int → Option R) (b : List Int) (vat k : Int) =>
    bi (decide ((IntKind.i64.wrap (vat + k)) < (b.length : Int)))
     (bi (decide (0 ≤ (IntKind.i64.wrap (vat + k)) ∧ (IntKind.i64.wrap (vat + k)) < ((b.length : Nat) : Int)))
      (bi (decide ((b.getD ((IntKind.i64.wrap (vat + k)).toNat) 0) ≥ 48))
       (bi (decide (0 ≤ (IntKind.i64.wrap (vat + k)) ∧ (IntKind.i64.wrap (vat + k)) < ((b.length : Nat) : Int)))
        (bi (decide ((b.getD ((IntKind.i64.wrap (vat + k)).toNat) 0) ≤ 57))
         (g22_4 b vat (IntKind.i64.wrap (k + 1)))
         (bi (k == 0)
          (K0 0 vat 6)
          (bi (decide (k > 1))
           (bi (decide (0 ≤ vat ∧ vat < ((b.length : Nat) : Int)))
            (bi ((b.getD vat.toNat 0) == 48)
             (K0 0 (IntKind.i64.wrap (vat + 1)) 6)
             (bi (decide (k > 4))
              (K0 0 (IntKind.i64.wrap (vat + 4)) 6)
              (g22_14 b vat k 0 vat)))
            none)
           (bi (decide (k > 4))
            (K0 0 (IntKind.i64.wrap (vat + 4)) 6)
            (g22_14 b vat k 0 vat)))))
        none)
       (bi (k == 0)
        (K0 0 vat 6)
        (bi (decide (k > 1))
         (bi (decide (0 ≤ vat ∧ vat < ((b.length : Nat) : Int)))
          (bi ((b.getD vat.toNat 0) == 48)
           (K0 0 (IntKind.i64.wrap (vat + 1)) 6)
           (bi (decide (k > 4))
            (K0 0 (IntKind.i64.wrap (vat + 4)) 6)
            (g22_14 b vat k 0 vat)))
          none)
         (bi (decide (k > 4))
          (K0 0 (IntKind.i64.wrap (vat + 4)) 6)
          (g22_14 b vat k 0 vat)))))
      none)
     (bi (k == 0)
      (K0 0 vat 6)
      (bi (decide (k > 1))
       (bi (decide (0 ≤ vat ∧ vat < ((b.length : Nat) : Int)))
        (bi ((b.getD vat.toNat 0) == 48)
         (K0 0 (IntKind.i64.wrap (vat + 1)) 6)
         (bi (decide (k > 4))
          (K0 0 (IntKind.i64.wrap (vat + 4)) 6)
          (g22_14 b vat k 0 vat)))
        none)
       (bi (decide (k > 4))
        (K0 0 (IntKind.i64.wrap (vat + 4)) 6)
        (g22_14 b vat k 0 vat))))) (gt_tutorref08_Number_4 g) (gt_tutorref08_Number_14 g) (fun r0 r1 r2 => K (.tup [.v (.int .i64 r0), .v (.int .i64 r1), .v (.int .i64 r2)]) []) b vat k := by kernel_rfl

theorem gstep_tutorref08_Number_14 {R : Type} (g : List Item → St → Option R) (K : AV → List O → Option R) (b : List Int) (vat k n i : Int) :
    runSeg Tryd.prog T_tutorref08_Number cuts_tutorref08_Number 0 g (finish Tryd.prog Tryd.f22 0 K) (at' Tryd.f22 14) (sta_tutorref08_Number_14 b vat k n i) =
    (fun (g22_4 : GT_tutorref08_Number_4 R) (g22_14 : GT_tutorref08_Number_14 R) (K0 : Int → Int → Int → Option R) (b : List Int) (vat k n i : Int) =>
    bi (decide (i < (IntKind.i64.wrap (vat + k))))
     (bi (decide (0 ≤ i ∧ i < ((b.length : Nat) : Int)))
      (g22_14 b vat k (IntKind.i64.wrap ((IntKind.i64.wrap (n * 10)) + (IntKind.i64.wrap (IntKind.u8.wrap ((b.getD i.toNat 0) - 48))))) (IntKind.i64.wrap (i + 1)))
      none)
     (K0 n (IntKind.i64.wrap (vat + k)) 0)) (gt_tutorref08_Number_4 g) (gt_tutorref08_Number_14 g) (fun r0 r1 r2 => K (.tup [.v (.int .i64 r0), .v (.int .i64 r1), .v (.int .i64 r2)]) []) b vat k n i := by kernel_rfl

theorem gentry_tutorref08_Number {R : Type} (fuel : Nat) (K : AV → List O → Option R) (b : List Int) (vat : Int) :
    fnRun Tryd.prog T_tutorref08_Number cuts_tutorref08_Number Tryd.f22 fuel [.rd ⟨false, 5, (.int .u8), b⟩, .v (.int .i64 vat)] [] K =
    (fun (g22_4 : GT_tutorref08_Number_4 R) (g22_14 : GT_tutorref08_Number_14 R) (K0 : Int → Int → Int → Option R) (b : List Int) (vat : Int) =>
    bi (decide (vat < 0))
     (K0 0 0 1)
     (bi (decide (vat > (b.length : Int)))
      (K0 0 0 1)
      (g22_4 b vat 0))) (gt_tutorref08_Number_4 (runO Tryd.prog T_tutorref08_Number cuts_tutorref08_Number 0 (finish Tryd.prog Tryd.f22 0 K) fuel)) (gt_tutorref08_Number_14 (runO Tryd.prog T_tutorref08_Number cuts_tutorref08_Number 0 (finish Tryd.prog Tryd.f22 0 K) fuel)) (fun r0 r1 r2 => K (.tup [.v (.int .i64 r0), .v (.int .i64 r1), .v (.int .i64 r2)]) []) b vat := by kernel_rfl

theorem runs_tutorref08_Number {R : Type} (K : AV → List O → Option R) : ∀ fuel : Nat,
    (gt_tutorref08_Number_4 (runO Tryd.prog T_tutorref08_Number cuts_tutorref08_Number 0 (finish Tryd.prog Tryd.f22 0 K) fuel)) = (run_tutorref08_Number (fun r0 r1 r2 => K (.tup [.v (.int .i64 r0), .v (.int .i64 r1), .v (.int .i64 r2)]) []) fuel).1 ∧
    (gt_tutorref08_Number_14 (runO Tryd.prog T_tutorref08_Number cuts_tutorref08_Number 0 (finish Tryd.prog Tryd.f22 0 K) fuel)) = (run_tutorref08_Number (fun r0 r1 r2 => K (.tup [.v (.int .i64 r0), .v (.int .i64 r1), .v (.int .i64 r2)]) []) fuel).2
  | 0 => ⟨rfl, rfl⟩
  | fuel + 1 => by
    have ih := runs_tutorref08_Number K fuel
    refine ⟨?_, ?_⟩
    · funext b vat k
      refine (gstep_tutorref08_Number_4 _ K b vat k).trans ?_
      rw [ih.1, ih.2]
      rfl
    · funext b vat k n i
      refine (gstep_tutorref08_Number_14 _ K b vat k n i).trans ?_
      rw [ih.1, ih.2]
      rfl

def S_tutorref08_Number (l_tutorref08_Number : LT_tutorref08_Number) : Sum := ⟨[], fun {R} args ob K => match args, ob with
  | [.rd ⟨false, 5, (.int .u8), b⟩, .v (.int .i64 vat)], [] => l_tutorref08_Number b vat (fun r0 r1 r2 => K (.tup [.v (.int .i64 r0), .v (.int .i64 r1), .v (.int .i64 r2)]) [])
  | _, _ => none⟩

theorem sound_tutorref08_Number : Sound Tryd.prog 22 (S_tutorref08_Number @l_tutorref08_Number) := by
  refine fn_sound (cuts := cuts_tutorref08_Number) (fn := Tryd.f22) (Γ := T_tutorref08_Number) wide right_T_tutorref08_Number Tryd.func22 fun {R} K r args ob h => ?_
  unfold S_tutorref08_Number at h
  dsimp only at h
  split at h
  · obtain ⟨n, hn⟩ := ok_tutorref08_Number _ _ _ h
    refine ⟨Nat.le_of_ble_eq_true (by kernel_rfl), n, (gentry_tutorref08_Number n K _ _).trans ?_⟩
    rw [(runs_tutorref08_Number K n).1, (runs_tutorref08_Number K n).2]
    exact hn
  · cases h

theorem call_tutorref08_Number : Callable Tryd.prog 22 := ⟨_, Tryd.func22, by kernel_rfl, by kernel_rfl⟩

def T_tutorref08_take (l_tutorref08_word : LT_tutorref08_word) (l_tutorref08_Number : LT_tutorref08_Number) : FuncId → Option Sum := (addS (addS G0 55 (S_tutorref08_word @l_tutorref08_word)) 22 (S_tutorref08_Number @l_tutorref08_Number))

theorem right_T_tutorref08_take : Right Tryd.prog (T_tutorref08_take @l_tutorref08_word @l_tutorref08_Number) := (right_add (right_add right_G0 call_tutorref08_word sound_tutorref08_word) call_tutorref08_Number sound_tutorref08_Number)

abbrev cuts_tutorref08_take : Cuts := [(3, [0, 1, 2, 9, 10])]

abbrev sta_tutorref08_take_3 (b : List Int) (vat : Int) (l : List (ByteArray × (Int × (Int × Int)))) (i : Int) (o0 : List Int) : St := ⟨fr0 84 [(0, .rd ⟨false, 5, (.int .u8), b⟩), (1, .v (.int .i64 vat)), (2, .rd ⟨false, 85, (.pr .str (.pr (.int .i64) (.pr (.int .i64) (.int .i64)))), l⟩), (9, .own 0), (10, .v (.int .i64 i))], [.row ⟨true, 3, (.int .i64), o0⟩]⟩

abbrev gt_tutorref08_take_3 {R : Type} (g : List Item → St → Option R) : GT_tutorref08_take_3 R := fun (b : List Int) (vat : Int) (l : List (ByteArray × (Int × (Int × Int)))) (i : Int) (o0 : List Int) => g (at' Tryd.f40 3) (sta_tutorref08_take_3 b vat l i o0)

theorem gstep_tutorref08_take_3 (l_tutorref08_word : LT_tutorref08_word) (l_tutorref08_Number : LT_tutorref08_Number) {R : Type} (g : List Item → St → Option R) (K : AV → List O → Option R) (b : List Int) (vat : Int) (l : List (ByteArray × (Int × (Int × Int)))) (i : Int) (o0 : List Int) :
    runSeg Tryd.prog (T_tutorref08_take @l_tutorref08_word @l_tutorref08_Number) cuts_tutorref08_take 0 g (finish Tryd.prog Tryd.f40 0 K) (at' Tryd.f40 3) (sta_tutorref08_take_3 b vat l i o0) =
    (fun (g40_3 : GT_tutorref08_take_3 R) (K0 : Int → Int → (List Int) → Option R) (b : List Int) (vat : Int) (l : List (ByteArray × (Int × (Int × Int)))) (i : Int) (o0 : List Int) =>
    bi (decide (i < (l.length : Int)))
     (bi (decide (0 ≤ i ∧ i < ((l.length : Nat) : Int)))
      (bi (decide ((((l.getD i.toNat (ByteArray.empty, (0, (0, 0)))).1).size : Int) > 0))
       (bi (decide (0 ≤ i ∧ i < ((l.length : Nat) : Int)))
        (l_tutorref08_word b vat ((l.getD i.toNat (ByteArray.empty, (0, (0, 0)))).1)
         (fun r1 r2 =>
          bi (decide (r1 < 0))
           (K0 r2 6 ([] : List Int))
           (g40_3 b r1 l (IntKind.i64.wrap (i + 1)) o0)))
        none)
       (l_tutorref08_Number b vat
        (fun r3 r4 r5 =>
         bi (r5 != 0)
          (K0 r4 r5 ([] : List Int))
          (bi (decide (0 ≤ i ∧ i < ((l.length : Nat) : Int)))
           (bi (decide (r3 < (((l.getD i.toNat (ByteArray.empty, (0, (0, 0)))).2).1)))
            (bi (decide (0 ≤ i ∧ i < ((l.length : Nat) : Int)))
             (K0 vat ((((l.getD i.toNat (ByteArray.empty, (0, (0, 0)))).2).2).2) ([] : List Int))
             none)
            (bi (decide (0 ≤ i ∧ i < ((l.length : Nat) : Int)))
             (bi (decide (r3 > ((((l.getD i.toNat (ByteArray.empty, (0, (0, 0)))).2).2).1)))
              (bi (decide (0 ≤ i ∧ i < ((l.length : Nat) : Int)))
               (K0 vat ((((l.getD i.toNat (ByteArray.empty, (0, (0, 0)))).2).2).2) ([] : List Int))
               none)
              (bi (decide ((o0.length + [r3].length) * 8 ≤ lim))
               (g40_3 b r4 l (IntKind.i64.wrap (i + 1)) (o0 ++ [r3]))
               none))
             none))
           none))))
      none)
     (K0 vat 0 o0)) (gt_tutorref08_take_3 g) (fun r0 r1 r2 => K (.tup [.own 0, .v (.int .i64 r0), .v (.int .i64 r1)]) [.row ⟨true, 3, (.int .i64), r2⟩]) b vat l i o0 := by kernel_rfl

theorem gentry_tutorref08_take (l_tutorref08_word : LT_tutorref08_word) (l_tutorref08_Number : LT_tutorref08_Number) {R : Type} (fuel : Nat) (K : AV → List O → Option R) (b : List Int) (vat : Int) (l : List (ByteArray × (Int × (Int × Int)))) :
    fnRun Tryd.prog (T_tutorref08_take @l_tutorref08_word @l_tutorref08_Number) cuts_tutorref08_take Tryd.f40 fuel [.rd ⟨false, 5, (.int .u8), b⟩, .v (.int .i64 vat), .rd ⟨false, 85, (.pr .str (.pr (.int .i64) (.pr (.int .i64) (.int .i64)))), l⟩] [] K =
    (fun (g40_3 : GT_tutorref08_take_3 R) (K0 : Int → Int → (List Int) → Option R) (b : List Int) (vat : Int) (l : List (ByteArray × (Int × (Int × Int)))) =>
    g40_3 b vat l 0 ([] : List Int)) (gt_tutorref08_take_3 (runO Tryd.prog (T_tutorref08_take @l_tutorref08_word @l_tutorref08_Number) cuts_tutorref08_take 0 (finish Tryd.prog Tryd.f40 0 K) fuel)) (fun r0 r1 r2 => K (.tup [.own 0, .v (.int .i64 r0), .v (.int .i64 r1)]) [.row ⟨true, 3, (.int .i64), r2⟩]) b vat l := by kernel_rfl

theorem runs_tutorref08_take {R : Type} (K : AV → List O → Option R) : ∀ fuel : Nat,
    (gt_tutorref08_take_3 (runO Tryd.prog (T_tutorref08_take @l_tutorref08_word @l_tutorref08_Number) cuts_tutorref08_take 0 (finish Tryd.prog Tryd.f40 0 K) fuel)) = (run_tutorref08_take (fun r0 r1 r2 => K (.tup [.own 0, .v (.int .i64 r0), .v (.int .i64 r1)]) [.row ⟨true, 3, (.int .i64), r2⟩]) fuel)
  | 0 => rfl
  | fuel + 1 => by
    have ih := runs_tutorref08_take K fuel
    funext b vat l i o0
    refine (gstep_tutorref08_take_3 @l_tutorref08_word @l_tutorref08_Number _ K b vat l i o0).trans ?_
    rw [ih]
    rfl

def S_tutorref08_take (l_tutorref08_take : LT_tutorref08_take) : Sum := ⟨[], fun {R} args ob K => match args, ob with
  | [.rd ⟨false, 5, (.int .u8), b⟩, .v (.int .i64 vat), .rd ⟨false, 85, (.pr .str (.pr (.int .i64) (.pr (.int .i64) (.int .i64)))), l⟩], [] => l_tutorref08_take b vat l (fun r0 r1 r2 => K (.tup [.own 0, .v (.int .i64 r0), .v (.int .i64 r1)]) [.row ⟨true, 3, (.int .i64), r2⟩])
  | _, _ => none⟩

theorem sound_tutorref08_take : Sound Tryd.prog 40 (S_tutorref08_take @l_tutorref08_take) := by
  refine fn_sound (cuts := cuts_tutorref08_take) (fn := Tryd.f40) (Γ := (T_tutorref08_take @l_tutorref08_word @l_tutorref08_Number)) wide right_T_tutorref08_take Tryd.func40 fun {R} K r args ob h => ?_
  unfold S_tutorref08_take at h
  dsimp only at h
  split at h
  · obtain ⟨n, hn⟩ := ok_tutorref08_take _ _ _ _ h
    refine ⟨Nat.le_of_ble_eq_true (by kernel_rfl), n, (gentry_tutorref08_take @l_tutorref08_word @l_tutorref08_Number n K _ _ _).trans ?_⟩
    rw [(runs_tutorref08_take K n)]
    exact hn
  · cases h

theorem call_tutorref08_take : Callable Tryd.prog 40 := ⟨_, Tryd.func40, by kernel_rfl, by kernel_rfl⟩

def T_tutorref08_Import (l_tutorref08_take : LT_tutorref08_take) : FuncId → Option Sum := (addS G0 40 (S_tutorref08_take @l_tutorref08_take))

theorem right_T_tutorref08_Import : Right Tryd.prog (T_tutorref08_Import @l_tutorref08_take) := (right_add right_G0 call_tutorref08_take sound_tutorref08_take)

abbrev cuts_tutorref08_Import : Cuts := [(4, [0, 2, 5, 6, 7]), (5, [0, 2, 5, 6, 7, 8, 9]), (12, [0, 2, 8, 9, 10, 11, 12, 13]), (14, [0, 2, 8, 9, 10, 11, 12]), (17, [0, 2, 8, 9, 10, 12]), (18, [0, 2, 8, 9, 10, 12, 14, 15]), (20, [0, 2, 8, 9, 10, 12, 14, 15, 16, 17]), (24, [0, 2, 8, 9, 10, 12, 14, 15, 16, 17]), (26, [0, 2, 8, 9, 10, 12, 14, 15, 16, 17]), (27, [0, 2, 8, 9, 10, 12, 14, 15, 16, 17]), (31, [0, 2, 10, 12, 16, 18]), (41, [0, 2, 10, 12, 16, 18, 19, 22])]

abbrev sta_tutorref08_Import_4 (b : List Int) (o0 o0_1 o0_2 o0_3 : Int) (o1 o2 : List Int) (o3 : ByteArray) (o3_1 o3_2 o3_3 : Int) (o4 : ByteArray) (o4_1 o4_2 o4_3 : Int) (o5 : ByteArray) (o5_1 o5_2 o5_3 : Int) : St := ⟨fr0 217 [(0, .rd ⟨false, 5, (.int .u8), b⟩), (2, .ptr 0 0), (5, .ptr 3 0), (6, .ptr 4 0), (7, .ptr 5 0)], [.box 24 [.v (.int .i64 o0), .v (.int .i64 o0_1), .v (.int .i64 o0_2), .v (.int .i64 o0_3), .own 1, .own 2], .row ⟨true, 3, (.int .i64), o1⟩, .row ⟨true, 3, (.int .i64), o2⟩, .box 85 [.v (.string o3), .v (.int .i64 o3_1), .v (.int .i64 o3_2), .v (.int .i64 o3_3)], .box 85 [.v (.string o4), .v (.int .i64 o4_1), .v (.int .i64 o4_2), .v (.int .i64 o4_3)], .box 85 [.v (.string o5), .v (.int .i64 o5_1), .v (.int .i64 o5_2), .v (.int .i64 o5_3)]]⟩

abbrev gt_tutorref08_Import_4 {R : Type} (g : List Item → St → Option R) : GT_tutorref08_Import_4 R := fun (b : List Int) (o0 o0_1 o0_2 o0_3 : Int) (o1 o2 : List Int) (o3 : ByteArray) (o3_1 o3_2 o3_3 : Int) (o4 : ByteArray) (o4_1 o4_2 o4_3 : Int) (o5 : ByteArray) (o5_1 o5_2 o5_3 : Int) => g (at' Tryd.f20 4) (sta_tutorref08_Import_4 b o0 o0_1 o0_2 o0_3 o1 o2 o3 o3_1 o3_2 o3_3 o4 o4_1 o4_2 o4_3 o5 o5_1 o5_2 o5_3)

abbrev sta_tutorref08_Import_5 (b : List Int) (o0 o0_1 o0_2 o0_3 : Int) (o1 o2 : List Int) (o3 : ByteArray) (o3_1 o3_2 o3_3 : Int) (o4 : ByteArray) (o4_1 o4_2 o4_3 : Int) (o5 : ByteArray) (o5_1 o5_2 o5_3 : Int) (o6 : ByteArray) (o6_1 o6_2 o6_3 : Int) (o7 : ByteArray) (o7_1 o7_2 o7_3 : Int) : St := ⟨fr0 217 [(0, .rd ⟨false, 5, (.int .u8), b⟩), (2, .ptr 0 0), (5, .ptr 3 0), (6, .ptr 4 0), (7, .ptr 5 0), (8, .ptr 6 0), (9, .ptr 7 0)], [.box 24 [.v (.int .i64 o0), .v (.int .i64 o0_1), .v (.int .i64 o0_2), .v (.int .i64 o0_3), .own 1, .own 2], .row ⟨true, 3, (.int .i64), o1⟩, .row ⟨true, 3, (.int .i64), o2⟩, .box 85 [.v (.string o3), .v (.int .i64 o3_1), .v (.int .i64 o3_2), .v (.int .i64 o3_3)], .box 85 [.v (.string o4), .v (.int .i64 o4_1), .v (.int .i64 o4_2), .v (.int .i64 o4_3)], .box 85 [.v (.string o5), .v (.int .i64 o5_1), .v (.int .i64 o5_2), .v (.int .i64 o5_3)], .box 85 [.v (.string o6), .v (.int .i64 o6_1), .v (.int .i64 o6_2), .v (.int .i64 o6_3)], .box 85 [.v (.string o7), .v (.int .i64 o7_1), .v (.int .i64 o7_2), .v (.int .i64 o7_3)]]⟩

abbrev gt_tutorref08_Import_5 {R : Type} (g : List Item → St → Option R) : GT_tutorref08_Import_5 R := fun (b : List Int) (o0 o0_1 o0_2 o0_3 : Int) (o1 o2 : List Int) (o3 : ByteArray) (o3_1 o3_2 o3_3 : Int) (o4 : ByteArray) (o4_1 o4_2 o4_3 : Int) (o5 : ByteArray) (o5_1 o5_2 o5_3 : Int) (o6 : ByteArray) (o6_1 o6_2 o6_3 : Int) (o7 : ByteArray) (o7_1 o7_2 o7_3 : Int) => g (at' Tryd.f20 5) (sta_tutorref08_Import_5 b o0 o0_1 o0_2 o0_3 o1 o2 o3 o3_1 o3_2 o3_3 o4 o4_1 o4_2 o4_3 o5 o5_1 o5_2 o5_3 o6 o6_1 o6_2 o6_3 o7 o7_1 o7_2 o7_3)

abbrev sta_tutorref08_Import_12 (b : List Int) (vat e o0 o0_1 o0_2 o0_3 : Int) (o1 o2 : List Int) (o3 : ByteArray) (o3_1 o3_2 o3_3 : Int) (o4 : ByteArray) (o4_1 o4_2 o4_3 o5 o5_1 o5_2 o5_3 : Int) (o6 o7 o8 : List Int) : St := ⟨fr0 217 [(0, .rd ⟨false, 5, (.int .u8), b⟩), (2, .ptr 0 0), (8, .ptr 3 0), (9, .ptr 4 0), (10, .ptr 5 0), (11, .own 8), (12, .v (.int .i64 vat)), (13, .v (.int .i64 e))], [.box 24 [.v (.int .i64 o0), .v (.int .i64 o0_1), .v (.int .i64 o0_2), .v (.int .i64 o0_3), .own 1, .own 2], .row ⟨true, 3, (.int .i64), o1⟩, .row ⟨true, 3, (.int .i64), o2⟩, .box 85 [.v (.string o3), .v (.int .i64 o3_1), .v (.int .i64 o3_2), .v (.int .i64 o3_3)], .box 85 [.v (.string o4), .v (.int .i64 o4_1), .v (.int .i64 o4_2), .v (.int .i64 o4_3)], .box 24 [.v (.int .i64 o5), .v (.int .i64 o5_1), .v (.int .i64 o5_2), .v (.int .i64 o5_3), .own 6, .own 7], .row ⟨true, 3, (.int .i64), o6⟩, .row ⟨true, 3, (.int .i64), o7⟩, .row ⟨true, 3, (.int .i64), o8⟩]⟩

abbrev gt_tutorref08_Import_12 {R : Type} (g : List Item → St → Option R) : GT_tutorref08_Import_12 R := fun (b : List Int) (vat e o0 o0_1 o0_2 o0_3 : Int) (o1 o2 : List Int) (o3 : ByteArray) (o3_1 o3_2 o3_3 : Int) (o4 : ByteArray) (o4_1 o4_2 o4_3 o5 o5_1 o5_2 o5_3 : Int) (o6 o7 o8 : List Int) => g (at' Tryd.f20 12) (sta_tutorref08_Import_12 b vat e o0 o0_1 o0_2 o0_3 o1 o2 o3 o3_1 o3_2 o3_3 o4 o4_1 o4_2 o4_3 o5 o5_1 o5_2 o5_3 o6 o7 o8)

abbrev sta_tutorref08_Import_14 (b : List Int) (vat o0 o0_1 o0_2 o0_3 : Int) (o1 o2 : List Int) (o3 : ByteArray) (o3_1 o3_2 o3_3 : Int) (o4 : ByteArray) (o4_1 o4_2 o4_3 o5 o5_1 o5_2 o5_3 : Int) (o6 o7 o8 : List Int) : St := ⟨fr0 217 [(0, .rd ⟨false, 5, (.int .u8), b⟩), (2, .ptr 0 0), (8, .ptr 3 0), (9, .ptr 4 0), (10, .ptr 5 0), (11, .own 8), (12, .v (.int .i64 vat))], [.box 24 [.v (.int .i64 o0), .v (.int .i64 o0_1), .v (.int .i64 o0_2), .v (.int .i64 o0_3), .own 1, .own 2], .row ⟨true, 3, (.int .i64), o1⟩, .row ⟨true, 3, (.int .i64), o2⟩, .box 85 [.v (.string o3), .v (.int .i64 o3_1), .v (.int .i64 o3_2), .v (.int .i64 o3_3)], .box 85 [.v (.string o4), .v (.int .i64 o4_1), .v (.int .i64 o4_2), .v (.int .i64 o4_3)], .box 24 [.v (.int .i64 o5), .v (.int .i64 o5_1), .v (.int .i64 o5_2), .v (.int .i64 o5_3), .own 6, .own 7], .row ⟨true, 3, (.int .i64), o6⟩, .row ⟨true, 3, (.int .i64), o7⟩, .row ⟨true, 3, (.int .i64), o8⟩]⟩

abbrev gt_tutorref08_Import_14 {R : Type} (g : List Item → St → Option R) : GT_tutorref08_Import_14 R := fun (b : List Int) (vat o0 o0_1 o0_2 o0_3 : Int) (o1 o2 : List Int) (o3 : ByteArray) (o3_1 o3_2 o3_3 : Int) (o4 : ByteArray) (o4_1 o4_2 o4_3 o5 o5_1 o5_2 o5_3 : Int) (o6 o7 o8 : List Int) => g (at' Tryd.f20 14) (sta_tutorref08_Import_14 b vat o0 o0_1 o0_2 o0_3 o1 o2 o3 o3_1 o3_2 o3_3 o4 o4_1 o4_2 o4_3 o5 o5_1 o5_2 o5_3 o6 o7 o8)

abbrev sta_tutorref08_Import_17 (b : List Int) (vat o0 o0_1 o0_2 o0_3 : Int) (o1 o2 : List Int) (o3 : ByteArray) (o3_1 o3_2 o3_3 : Int) (o4 : ByteArray) (o4_1 o4_2 o4_3 o5 o5_1 o5_2 o5_3 : Int) (o6 o7 : List Int) : St := ⟨fr0 217 [(0, .rd ⟨false, 5, (.int .u8), b⟩), (2, .ptr 0 0), (8, .ptr 3 0), (9, .ptr 4 0), (10, .ptr 5 0), (12, .v (.int .i64 vat))], [.box 24 [.v (.int .i64 o0), .v (.int .i64 o0_1), .v (.int .i64 o0_2), .v (.int .i64 o0_3), .own 1, .own 2], .row ⟨true, 3, (.int .i64), o1⟩, .row ⟨true, 3, (.int .i64), o2⟩, .box 85 [.v (.string o3), .v (.int .i64 o3_1), .v (.int .i64 o3_2), .v (.int .i64 o3_3)], .box 85 [.v (.string o4), .v (.int .i64 o4_1), .v (.int .i64 o4_2), .v (.int .i64 o4_3)], .box 24 [.v (.int .i64 o5), .v (.int .i64 o5_1), .v (.int .i64 o5_2), .v (.int .i64 o5_3), .own 6, .own 7], .row ⟨true, 3, (.int .i64), o6⟩, .row ⟨true, 3, (.int .i64), o7⟩]⟩

abbrev gt_tutorref08_Import_17 {R : Type} (g : List Item → St → Option R) : GT_tutorref08_Import_17 R := fun (b : List Int) (vat o0 o0_1 o0_2 o0_3 : Int) (o1 o2 : List Int) (o3 : ByteArray) (o3_1 o3_2 o3_3 : Int) (o4 : ByteArray) (o4_1 o4_2 o4_3 o5 o5_1 o5_2 o5_3 : Int) (o6 o7 : List Int) => g (at' Tryd.f20 17) (sta_tutorref08_Import_17 b vat o0 o0_1 o0_2 o0_3 o1 o2 o3 o3_1 o3_2 o3_3 o4 o4_1 o4_2 o4_3 o5 o5_1 o5_2 o5_3 o6 o7)

abbrev sta_tutorref08_Import_18 (b : List Int) (vat o0 o0_1 o0_2 o0_3 : Int) (o1 o2 : List Int) (o3 : ByteArray) (o3_1 o3_2 o3_3 : Int) (o4 : ByteArray) (o4_1 o4_2 o4_3 o5 o5_1 o5_2 o5_3 : Int) (o6 o7 : List Int) (o8 : ByteArray) (o8_1 o8_2 o8_3 : Int) (o9 : ByteArray) (o9_1 o9_2 o9_3 : Int) : St := ⟨fr0 217 [(0, .rd ⟨false, 5, (.int .u8), b⟩), (2, .ptr 0 0), (8, .ptr 3 0), (9, .ptr 4 0), (10, .ptr 5 0), (12, .v (.int .i64 vat)), (14, .ptr 8 0), (15, .ptr 9 0)], [.box 24 [.v (.int .i64 o0), .v (.int .i64 o0_1), .v (.int .i64 o0_2), .v (.int .i64 o0_3), .own 1, .own 2], .row ⟨true, 3, (.int .i64), o1⟩, .row ⟨true, 3, (.int .i64), o2⟩, .box 85 [.v (.string o3), .v (.int .i64 o3_1), .v (.int .i64 o3_2), .v (.int .i64 o3_3)], .box 85 [.v (.string o4), .v (.int .i64 o4_1), .v (.int .i64 o4_2), .v (.int .i64 o4_3)], .box 24 [.v (.int .i64 o5), .v (.int .i64 o5_1), .v (.int .i64 o5_2), .v (.int .i64 o5_3), .own 6, .own 7], .row ⟨true, 3, (.int .i64), o6⟩, .row ⟨true, 3, (.int .i64), o7⟩, .box 85 [.v (.string o8), .v (.int .i64 o8_1), .v (.int .i64 o8_2), .v (.int .i64 o8_3)], .box 85 [.v (.string o9), .v (.int .i64 o9_1), .v (.int .i64 o9_2), .v (.int .i64 o9_3)]]⟩

abbrev gt_tutorref08_Import_18 {R : Type} (g : List Item → St → Option R) : GT_tutorref08_Import_18 R := fun (b : List Int) (vat o0 o0_1 o0_2 o0_3 : Int) (o1 o2 : List Int) (o3 : ByteArray) (o3_1 o3_2 o3_3 : Int) (o4 : ByteArray) (o4_1 o4_2 o4_3 o5 o5_1 o5_2 o5_3 : Int) (o6 o7 : List Int) (o8 : ByteArray) (o8_1 o8_2 o8_3 : Int) (o9 : ByteArray) (o9_1 o9_2 o9_3 : Int) => g (at' Tryd.f20 18) (sta_tutorref08_Import_18 b vat o0 o0_1 o0_2 o0_3 o1 o2 o3 o3_1 o3_2 o3_3 o4 o4_1 o4_2 o4_3 o5 o5_1 o5_2 o5_3 o6 o7 o8 o8_1 o8_2 o8_3 o9 o9_1 o9_2 o9_3)

abbrev sta_tutorref08_Import_20 (b : List Int) (vat x o0 o0_1 o0_2 o0_3 : Int) (o1 o2 : List Int) (o3 : ByteArray) (o3_1 o3_2 o3_3 : Int) (o4 : ByteArray) (o4_1 o4_2 o4_3 o5 o5_1 o5_2 o5_3 : Int) (o6 o7 : List Int) (o8 : ByteArray) (o8_1 o8_2 o8_3 : Int) (o9 : ByteArray) (o9_1 o9_2 o9_3 : Int) (o10 : List (ByteArray × (Int × (Int × Int)))) : St := ⟨fr0 217 [(0, .rd ⟨false, 5, (.int .u8), b⟩), (2, .ptr 0 0), (8, .ptr 3 0), (9, .ptr 4 0), (10, .ptr 5 0), (12, .v (.int .i64 vat)), (14, .ptr 8 0), (15, .ptr 9 0), (16, .own 10), (17, .v (.int .i64 x))], [.box 24 [.v (.int .i64 o0), .v (.int .i64 o0_1), .v (.int .i64 o0_2), .v (.int .i64 o0_3), .own 1, .own 2], .row ⟨true, 3, (.int .i64), o1⟩, .row ⟨true, 3, (.int .i64), o2⟩, .box 85 [.v (.string o3), .v (.int .i64 o3_1), .v (.int .i64 o3_2), .v (.int .i64 o3_3)], .box 85 [.v (.string o4), .v (.int .i64 o4_1), .v (.int .i64 o4_2), .v (.int .i64 o4_3)], .box 24 [.v (.int .i64 o5), .v (.int .i64 o5_1), .v (.int .i64 o5_2), .v (.int .i64 o5_3), .own 6, .own 7], .row ⟨true, 3, (.int .i64), o6⟩, .row ⟨true, 3, (.int .i64), o7⟩, .box 85 [.v (.string o8), .v (.int .i64 o8_1), .v (.int .i64 o8_2), .v (.int .i64 o8_3)], .box 85 [.v (.string o9), .v (.int .i64 o9_1), .v (.int .i64 o9_2), .v (.int .i64 o9_3)], .row ⟨true, 85, (.pr .str (.pr (.int .i64) (.pr (.int .i64) (.int .i64)))), o10⟩]⟩

abbrev gt_tutorref08_Import_20 {R : Type} (g : List Item → St → Option R) : GT_tutorref08_Import_20 R := fun (b : List Int) (vat x o0 o0_1 o0_2 o0_3 : Int) (o1 o2 : List Int) (o3 : ByteArray) (o3_1 o3_2 o3_3 : Int) (o4 : ByteArray) (o4_1 o4_2 o4_3 o5 o5_1 o5_2 o5_3 : Int) (o6 o7 : List Int) (o8 : ByteArray) (o8_1 o8_2 o8_3 : Int) (o9 : ByteArray) (o9_1 o9_2 o9_3 : Int) (o10 : List (ByteArray × (Int × (Int × Int)))) => g (at' Tryd.f20 20) (sta_tutorref08_Import_20 b vat x o0 o0_1 o0_2 o0_3 o1 o2 o3 o3_1 o3_2 o3_3 o4 o4_1 o4_2 o4_3 o5 o5_1 o5_2 o5_3 o6 o7 o8 o8_1 o8_2 o8_3 o9 o9_1 o9_2 o9_3 o10)

abbrev sta_tutorref08_Import_24 (b : List Int) (vat x o0 o0_1 o0_2 o0_3 : Int) (o1 o2 : List Int) (o3 : ByteArray) (o3_1 o3_2 o3_3 : Int) (o4 : ByteArray) (o4_1 o4_2 o4_3 o5 o5_1 o5_2 o5_3 : Int) (o6 o7 : List Int) (o8 : ByteArray) (o8_1 o8_2 o8_3 : Int) (o9 : ByteArray) (o9_1 o9_2 o9_3 : Int) (o10 : List (ByteArray × (Int × (Int × Int)))) : St := ⟨fr0 217 [(0, .rd ⟨false, 5, (.int .u8), b⟩), (2, .ptr 0 0), (8, .ptr 3 0), (9, .ptr 4 0), (10, .ptr 5 0), (12, .v (.int .i64 vat)), (14, .ptr 8 0), (15, .ptr 9 0), (16, .own 10), (17, .v (.int .i64 x))], [.box 24 [.v (.int .i64 o0), .v (.int .i64 o0_1), .v (.int .i64 o0_2), .v (.int .i64 o0_3), .own 1, .own 2], .row ⟨true, 3, (.int .i64), o1⟩, .row ⟨true, 3, (.int .i64), o2⟩, .box 85 [.v (.string o3), .v (.int .i64 o3_1), .v (.int .i64 o3_2), .v (.int .i64 o3_3)], .box 85 [.v (.string o4), .v (.int .i64 o4_1), .v (.int .i64 o4_2), .v (.int .i64 o4_3)], .box 24 [.v (.int .i64 o5), .v (.int .i64 o5_1), .v (.int .i64 o5_2), .v (.int .i64 o5_3), .own 6, .own 7], .row ⟨true, 3, (.int .i64), o6⟩, .row ⟨true, 3, (.int .i64), o7⟩, .box 85 [.v (.string o8), .v (.int .i64 o8_1), .v (.int .i64 o8_2), .v (.int .i64 o8_3)], .box 85 [.v (.string o9), .v (.int .i64 o9_1), .v (.int .i64 o9_2), .v (.int .i64 o9_3)], .row ⟨true, 85, (.pr .str (.pr (.int .i64) (.pr (.int .i64) (.int .i64)))), o10⟩]⟩

abbrev gt_tutorref08_Import_24 {R : Type} (g : List Item → St → Option R) : GT_tutorref08_Import_24 R := fun (b : List Int) (vat x o0 o0_1 o0_2 o0_3 : Int) (o1 o2 : List Int) (o3 : ByteArray) (o3_1 o3_2 o3_3 : Int) (o4 : ByteArray) (o4_1 o4_2 o4_3 o5 o5_1 o5_2 o5_3 : Int) (o6 o7 : List Int) (o8 : ByteArray) (o8_1 o8_2 o8_3 : Int) (o9 : ByteArray) (o9_1 o9_2 o9_3 : Int) (o10 : List (ByteArray × (Int × (Int × Int)))) => g (at' Tryd.f20 24) (sta_tutorref08_Import_24 b vat x o0 o0_1 o0_2 o0_3 o1 o2 o3 o3_1 o3_2 o3_3 o4 o4_1 o4_2 o4_3 o5 o5_1 o5_2 o5_3 o6 o7 o8 o8_1 o8_2 o8_3 o9 o9_1 o9_2 o9_3 o10)

abbrev sta_tutorref08_Import_31 (b : List Int) (vat s o0 o0_1 o0_2 o0_3 : Int) (o1 o2 : List Int) (o3 o3_1 o3_2 o3_3 : Int) (o4 o5 : List Int) (o6 : List (ByteArray × (Int × (Int × Int)))) : St := ⟨fr0 217 [(0, .rd ⟨false, 5, (.int .u8), b⟩), (2, .ptr 0 0), (10, .ptr 3 0), (12, .v (.int .i64 vat)), (16, .own 6), (18, .v (.int .i64 s))], [.box 24 [.v (.int .i64 o0), .v (.int .i64 o0_1), .v (.int .i64 o0_2), .v (.int .i64 o0_3), .own 1, .own 2], .row ⟨true, 3, (.int .i64), o1⟩, .row ⟨true, 3, (.int .i64), o2⟩, .box 24 [.v (.int .i64 o3), .v (.int .i64 o3_1), .v (.int .i64 o3_2), .v (.int .i64 o3_3), .own 4, .own 5], .row ⟨true, 3, (.int .i64), o4⟩, .row ⟨true, 3, (.int .i64), o5⟩, .row ⟨true, 85, (.pr .str (.pr (.int .i64) (.pr (.int .i64) (.int .i64)))), o6⟩]⟩

abbrev gt_tutorref08_Import_31 {R : Type} (g : List Item → St → Option R) : GT_tutorref08_Import_31 R := fun (b : List Int) (vat s o0 o0_1 o0_2 o0_3 : Int) (o1 o2 : List Int) (o3 o3_1 o3_2 o3_3 : Int) (o4 o5 : List Int) (o6 : List (ByteArray × (Int × (Int × Int)))) => g (at' Tryd.f20 31) (sta_tutorref08_Import_31 b vat s o0 o0_1 o0_2 o0_3 o1 o2 o3 o3_1 o3_2 o3_3 o4 o5 o6)

abbrev sta_tutorref08_Import_26 (b : List Int) (vat x o0 o0_1 o0_2 o0_3 : Int) (o1 o2 : List Int) (o3 : ByteArray) (o3_1 o3_2 o3_3 : Int) (o4 : ByteArray) (o4_1 o4_2 o4_3 o5 o5_1 o5_2 o5_3 : Int) (o6 o7 : List Int) (o8 : ByteArray) (o8_1 o8_2 o8_3 : Int) (o9 : ByteArray) (o9_1 o9_2 o9_3 : Int) (o10 : List (ByteArray × (Int × (Int × Int)))) : St := ⟨fr0 217 [(0, .rd ⟨false, 5, (.int .u8), b⟩), (2, .ptr 0 0), (8, .ptr 3 0), (9, .ptr 4 0), (10, .ptr 5 0), (12, .v (.int .i64 vat)), (14, .ptr 8 0), (15, .ptr 9 0), (16, .own 10), (17, .v (.int .i64 x))], [.box 24 [.v (.int .i64 o0), .v (.int .i64 o0_1), .v (.int .i64 o0_2), .v (.int .i64 o0_3), .own 1, .own 2], .row ⟨true, 3, (.int .i64), o1⟩, .row ⟨true, 3, (.int .i64), o2⟩, .box 85 [.v (.string o3), .v (.int .i64 o3_1), .v (.int .i64 o3_2), .v (.int .i64 o3_3)], .box 85 [.v (.string o4), .v (.int .i64 o4_1), .v (.int .i64 o4_2), .v (.int .i64 o4_3)], .box 24 [.v (.int .i64 o5), .v (.int .i64 o5_1), .v (.int .i64 o5_2), .v (.int .i64 o5_3), .own 6, .own 7], .row ⟨true, 3, (.int .i64), o6⟩, .row ⟨true, 3, (.int .i64), o7⟩, .box 85 [.v (.string o8), .v (.int .i64 o8_1), .v (.int .i64 o8_2), .v (.int .i64 o8_3)], .box 85 [.v (.string o9), .v (.int .i64 o9_1), .v (.int .i64 o9_2), .v (.int .i64 o9_3)], .row ⟨true, 85, (.pr .str (.pr (.int .i64) (.pr (.int .i64) (.int .i64)))), o10⟩]⟩

abbrev gt_tutorref08_Import_26 {R : Type} (g : List Item → St → Option R) : GT_tutorref08_Import_26 R := fun (b : List Int) (vat x o0 o0_1 o0_2 o0_3 : Int) (o1 o2 : List Int) (o3 : ByteArray) (o3_1 o3_2 o3_3 : Int) (o4 : ByteArray) (o4_1 o4_2 o4_3 o5 o5_1 o5_2 o5_3 : Int) (o6 o7 : List Int) (o8 : ByteArray) (o8_1 o8_2 o8_3 : Int) (o9 : ByteArray) (o9_1 o9_2 o9_3 : Int) (o10 : List (ByteArray × (Int × (Int × Int)))) => g (at' Tryd.f20 26) (sta_tutorref08_Import_26 b vat x o0 o0_1 o0_2 o0_3 o1 o2 o3 o3_1 o3_2 o3_3 o4 o4_1 o4_2 o4_3 o5 o5_1 o5_2 o5_3 o6 o7 o8 o8_1 o8_2 o8_3 o9 o9_1 o9_2 o9_3 o10)

abbrev sta_tutorref08_Import_41a (b : List Int) (vat s : Int) (l : Nat) (i o0 o0_1 o0_2 o0_3 : Int) (o1 o2 : List Int) (o3 o3_1 o3_2 o3_3 : Int) (o4 o5 : List Int) (o6 : List (ByteArray × (Int × (Int × Int)))) (o7 : List Int) : St := ⟨fr0 217 [(0, .rd ⟨false, 5, (.int .u8), b⟩), (2, .ptr 0 0), (10, .ptr 3 0), (12, .v (.int .i64 vat)), (16, .own 6), (18, .v (.int .i64 s)), (19, .view 7 1 1 l), (22, .v (.int .i64 i))], [.box 24 [.v (.int .i64 o0), .v (.int .i64 o0_1), .v (.int .i64 o0_2), .v (.int .i64 o0_3), .own 1, .own 2], .row ⟨true, 3, (.int .i64), o1⟩, .row ⟨true, 3, (.int .i64), o2⟩, .box 24 [.v (.int .i64 o3), .v (.int .i64 o3_1), .v (.int .i64 o3_2), .v (.int .i64 o3_3), .own 4, .own 5], .row ⟨true, 3, (.int .i64), o4⟩, .row ⟨true, 3, (.int .i64), o5⟩, .row ⟨true, 85, (.pr .str (.pr (.int .i64) (.pr (.int .i64) (.int .i64)))), o6⟩, .row ⟨true, 3, (.int .i64), o7⟩]⟩

abbrev gt_tutorref08_Import_41a {R : Type} (g : List Item → St → Option R) : GT_tutorref08_Import_41a R := fun (b : List Int) (vat s : Int) (l : Nat) (i o0 o0_1 o0_2 o0_3 : Int) (o1 o2 : List Int) (o3 o3_1 o3_2 o3_3 : Int) (o4 o5 : List Int) (o6 : List (ByteArray × (Int × (Int × Int)))) (o7 : List Int) => g (at' Tryd.f20 41) (sta_tutorref08_Import_41a b vat s l i o0 o0_1 o0_2 o0_3 o1 o2 o3 o3_1 o3_2 o3_3 o4 o5 o6 o7)

abbrev sta_tutorref08_Import_41b (b : List Int) (vat s i o0 o0_1 o0_2 o0_3 : Int) (o1 o2 : List Int) (o3 o3_1 o3_2 o3_3 : Int) (o4 o5 : List Int) (o6 : List (ByteArray × (Int × (Int × Int)))) (o7 : List Int) : St := ⟨fr0 217 [(0, .rd ⟨false, 5, (.int .u8), b⟩), (2, .ptr 0 0), (10, .ptr 3 0), (12, .v (.int .i64 vat)), (16, .own 6), (18, .v (.int .i64 s)), (19, .own 7), (22, .v (.int .i64 i))], [.box 24 [.v (.int .i64 o0), .v (.int .i64 o0_1), .v (.int .i64 o0_2), .v (.int .i64 o0_3), .own 1, .own 2], .row ⟨true, 3, (.int .i64), o1⟩, .row ⟨true, 3, (.int .i64), o2⟩, .box 24 [.v (.int .i64 o3), .v (.int .i64 o3_1), .v (.int .i64 o3_2), .v (.int .i64 o3_3), .own 4, .own 5], .row ⟨true, 3, (.int .i64), o4⟩, .row ⟨true, 3, (.int .i64), o5⟩, .row ⟨true, 85, (.pr .str (.pr (.int .i64) (.pr (.int .i64) (.int .i64)))), o6⟩, .row ⟨true, 3, (.int .i64), o7⟩]⟩

abbrev gt_tutorref08_Import_41b {R : Type} (g : List Item → St → Option R) : GT_tutorref08_Import_41b R := fun (b : List Int) (vat s i o0 o0_1 o0_2 o0_3 : Int) (o1 o2 : List Int) (o3 o3_1 o3_2 o3_3 : Int) (o4 o5 : List Int) (o6 : List (ByteArray × (Int × (Int × Int)))) (o7 : List Int) => g (at' Tryd.f20 41) (sta_tutorref08_Import_41b b vat s i o0 o0_1 o0_2 o0_3 o1 o2 o3 o3_1 o3_2 o3_3 o4 o5 o6 o7)

abbrev sta_tutorref08_Import_27 (b : List Int) (vat x o0 o0_1 o0_2 o0_3 : Int) (o1 o2 : List Int) (o3 : ByteArray) (o3_1 o3_2 o3_3 : Int) (o4 : ByteArray) (o4_1 o4_2 o4_3 o5 o5_1 o5_2 o5_3 : Int) (o6 o7 : List Int) (o8 : ByteArray) (o8_1 o8_2 o8_3 : Int) (o9 : ByteArray) (o9_1 o9_2 o9_3 : Int) (o10 : List (ByteArray × (Int × (Int × Int)))) : St := ⟨fr0 217 [(0, .rd ⟨false, 5, (.int .u8), b⟩), (2, .ptr 0 0), (8, .ptr 3 0), (9, .ptr 4 0), (10, .ptr 5 0), (12, .v (.int .i64 vat)), (14, .ptr 8 0), (15, .ptr 9 0), (16, .own 10), (17, .v (.int .i64 x))], [.box 24 [.v (.int .i64 o0), .v (.int .i64 o0_1), .v (.int .i64 o0_2), .v (.int .i64 o0_3), .own 1, .own 2], .row ⟨true, 3, (.int .i64), o1⟩, .row ⟨true, 3, (.int .i64), o2⟩, .box 85 [.v (.string o3), .v (.int .i64 o3_1), .v (.int .i64 o3_2), .v (.int .i64 o3_3)], .box 85 [.v (.string o4), .v (.int .i64 o4_1), .v (.int .i64 o4_2), .v (.int .i64 o4_3)], .box 24 [.v (.int .i64 o5), .v (.int .i64 o5_1), .v (.int .i64 o5_2), .v (.int .i64 o5_3), .own 6, .own 7], .row ⟨true, 3, (.int .i64), o6⟩, .row ⟨true, 3, (.int .i64), o7⟩, .box 85 [.v (.string o8), .v (.int .i64 o8_1), .v (.int .i64 o8_2), .v (.int .i64 o8_3)], .box 85 [.v (.string o9), .v (.int .i64 o9_1), .v (.int .i64 o9_2), .v (.int .i64 o9_3)], .row ⟨true, 85, (.pr .str (.pr (.int .i64) (.pr (.int .i64) (.int .i64)))), o10⟩]⟩

abbrev gt_tutorref08_Import_27 {R : Type} (g : List Item → St → Option R) : GT_tutorref08_Import_27 R := fun (b : List Int) (vat x o0 o0_1 o0_2 o0_3 : Int) (o1 o2 : List Int) (o3 : ByteArray) (o3_1 o3_2 o3_3 : Int) (o4 : ByteArray) (o4_1 o4_2 o4_3 o5 o5_1 o5_2 o5_3 : Int) (o6 o7 : List Int) (o8 : ByteArray) (o8_1 o8_2 o8_3 : Int) (o9 : ByteArray) (o9_1 o9_2 o9_3 : Int) (o10 : List (ByteArray × (Int × (Int × Int)))) => g (at' Tryd.f20 27) (sta_tutorref08_Import_27 b vat x o0 o0_1 o0_2 o0_3 o1 o2 o3 o3_1 o3_2 o3_3 o4 o4_1 o4_2 o4_3 o5 o5_1 o5_2 o5_3 o6 o7 o8 o8_1 o8_2 o8_3 o9 o9_1 o9_2 o9_3 o10)

theorem gstep_tutorref08_Import_4 (l_tutorref08_take : LT_tutorref08_take) {R : Type} (g : List Item → St → Option R) (K : AV → List O → Option R) (b : List Int) (o0 o0_1 o0_2 o0_3 : Int) (o1 o2 : List Int) (o3 : ByteArray) (o3_1 o3_2 o3_3 : Int) (o4 : ByteArray) (o4_1 o4_2 o4_3 : Int) (o5 : ByteArray) (o5_1 o5_2 o5_3 : Int) :
    runSeg Tryd.prog (T_tutorref08_Import @l_tutorref08_take) cuts_tutorref08_Import 0 g (finish Tryd.prog Tryd.f20 0 K) (at' Tryd.f20 4) (sta_tutorref08_Import_4 b o0 o0_1 o0_2 o0_3 o1 o2 o3 o3_1 o3_2 o3_3 o4 o4_1 o4_2 o4_3 o5 o5_1 o5_2 o5_3) =
    (fun (g20_4 : GT_tutorref08_Import_4 R) (g20_5 : GT_tutorref08_Import_5 R) (g20_12 : GT_tutorref08_Import_12 R) (g20_14 : GT_tutorref08_Import_14 R) (g20_17 : GT_tutorref08_Import_17 R) (g20_18 : GT_tutorref08_Import_18 R) (g20_20 : GT_tutorref08_Import_20 R) (g20_24 : GT_tutorref08_Import_24 R) (g20_31 : GT_tutorref08_Import_31 R) (g20_26 : GT_tutorref08_Import_26 R) (g20_41 : GT_tutorref08_Import_41a R) (g20_41b : GT_tutorref08_Import_41b R) (g20_27 : GT_tutorref08_Import_27 R) (K0 : Int → Int → Int → Int → Int → Int → (List Int) → (List Int) → Option R) (b : List Int) (o0 o0_1 o0_2 o0_3 : Int) (o1 o2 : List Int) (o3 : ByteArray) (o3_1 o3_2 o3_3 : Int) (o4 : ByteArray) (o4_1 o4_2 o4_3 : Int) (o5 : ByteArray) (o5_1 o5_2 o5_3 : Int) =>
    g20_5 b o0 o0_1 o0_2 o0_3 o1 o2 o3 o3_1 o3_2 o3_3 o4 o4_1 o4_2 o4_3 o5 o5_1 o5_2 o5_3 (ByteArray.mk #[32]) 0 0 0 (ByteArray.mk #[10]) 0 0 0) (gt_tutorref08_Import_4 g) (gt_tutorref08_Import_5 g) (gt_tutorref08_Import_12 g) (gt_tutorref08_Import_14 g) (gt_tutorref08_Import_17 g) (gt_tutorref08_Import_18 g) (gt_tutorref08_Import_20 g) (gt_tutorref08_Import_24 g) (gt_tutorref08_Import_31 g) (gt_tutorref08_Import_26 g) (gt_tutorref08_Import_41a g) (gt_tutorref08_Import_41b g) (gt_tutorref08_Import_27 g) (fun r0 r1 r2 r3 r4 r5 r6 r7 => K (.tup [.agg [.v (.int .i64 r0), .v (.int .i64 r1), .v (.int .i64 r2), .v (.int .i64 r3), .own 0, .own 1], .v (.int .i64 r4), .v (.int .i64 r5)]) [.row ⟨true, 3, (.int .i64), r6⟩, .row ⟨true, 3, (.int .i64), r7⟩]) b o0 o0_1 o0_2 o0_3 o1 o2 o3 o3_1 o3_2 o3_3 o4 o4_1 o4_2 o4_3 o5 o5_1 o5_2 o5_3 := by kernel_rfl

theorem gstep_tutorref08_Import_5 (l_tutorref08_take : LT_tutorref08_take) {R : Type} (g : List Item → St → Option R) (K : AV → List O → Option R) (b : List Int) (o0 o0_1 o0_2 o0_3 : Int) (o1 o2 : List Int) (o3 : ByteArray) (o3_1 o3_2 o3_3 : Int) (o4 : ByteArray) (o4_1 o4_2 o4_3 : Int) (o5 : ByteArray) (o5_1 o5_2 o5_3 : Int) (o6 : ByteArray) (o6_1 o6_2 o6_3 : Int) (o7 : ByteArray) (o7_1 o7_2 o7_3 : Int) :
    runSeg Tryd.prog (T_tutorref08_Import @l_tutorref08_take) cuts_tutorref08_Import 0 g (finish Tryd.prog Tryd.f20 0 K) (at' Tryd.f20 5) (sta_tutorref08_Import_5 b o0 o0_1 o0_2 o0_3 o1 o2 o3 o3_1 o3_2 o3_3 o4 o4_1 o4_2 o4_3 o5 o5_1 o5_2 o5_3 o6 o6_1 o6_2 o6_3 o7 o7_1 o7_2 o7_3) =
    (fun (g20_4 : GT_tutorref08_Import_4 R) (g20_5 : GT_tutorref08_Import_5 R) (g20_12 : GT_tutorref08_Import_12 R) (g20_14 : GT_tutorref08_Import_14 R) (g20_17 : GT_tutorref08_Import_17 R) (g20_18 : GT_tutorref08_Import_18 R) (g20_20 : GT_tutorref08_Import_20 R) (g20_24 : GT_tutorref08_Import_24 R) (g20_31 : GT_tutorref08_Import_31 R) (g20_26 : GT_tutorref08_Import_26 R) (g20_41 : GT_tutorref08_Import_41a R) (g20_41b : GT_tutorref08_Import_41b R) (g20_27 : GT_tutorref08_Import_27 R) (K0 : Int → Int → Int → Int → Int → Int → (List Int) → (List Int) → Option R) (b : List Int) (o0 o0_1 o0_2 o0_3 : Int) (o1 o2 : List Int) (o3 : ByteArray) (o3_1 o3_2 o3_3 : Int) (o4 : ByteArray) (o4_1 o4_2 o4_3 : Int) (o5 : ByteArray) (o5_1 o5_2 o5_3 : Int) (o6 : ByteArray) (o6_1 o6_2 o6_3 : Int) (o7 : ByteArray) (o7_1 o7_2 o7_3 : Int) =>
    bi (decide ((b.length : Int) > 0))
     (bi (decide (0 ≤ (0 : Int) ∧ (0 : Int) < ((b.length : Nat) : Int)))
      (bi ((b.getD 0 0) == 109)
       (l_tutorref08_take b 0 [((ByteArray.mk #[109, 101, 97, 108, 121, 32]), (0, (0, 0))), (o3, (o3_1, (o3_2, o3_3))), (o6, (o6_1, (o6_2, o6_3))), (o4, (o4_1, (o4_2, o4_3))), (o6, (o6_1, (o6_2, o6_3))), (o5, (o5_1, (o5_2, o5_3))), (o7, (o7_1, (o7_2, o7_3)))]
        (fun r1 r2 r3 =>
         g20_12 b r1 r2 o0 o0_1 o0_2 o0_3 o1 o2 o6 o6_1 o6_2 o6_3 o7 o7_1 o7_2 o7_3 2 0 2 0 ([] : List Int) ([] : List Int) r3))
       (l_tutorref08_take b 0 [((ByteArray.mk #[100, 102, 97, 32]), (0, (0, 0))), (o3, (o3_1, (o3_2, o3_3))), (o6, (o6_1, (o6_2, o6_3))), (o5, (o5_1, (o5_2, o5_3))), (o7, (o7_1, (o7_2, o7_3)))]
        (fun r4 r5 r6 =>
         g20_12 b r4 r5 o0 o0_1 o0_2 o0_3 o1 o2 o6 o6_1 o6_2 o6_3 o7 o7_1 o7_2 o7_3 1 0 2 0 ([] : List Int) ([] : List Int) r6)))
      none)
     (l_tutorref08_take b 0 [((ByteArray.mk #[100, 102, 97, 32]), (0, (0, 0))), (o3, (o3_1, (o3_2, o3_3))), (o6, (o6_1, (o6_2, o6_3))), (o5, (o5_1, (o5_2, o5_3))), (o7, (o7_1, (o7_2, o7_3)))]
      (fun r7 r8 r9 =>
       g20_12 b r7 r8 o0 o0_1 o0_2 o0_3 o1 o2 o6 o6_1 o6_2 o6_3 o7 o7_1 o7_2 o7_3 1 0 2 0 ([] : List Int) ([] : List Int) r9))) (gt_tutorref08_Import_4 g) (gt_tutorref08_Import_5 g) (gt_tutorref08_Import_12 g) (gt_tutorref08_Import_14 g) (gt_tutorref08_Import_17 g) (gt_tutorref08_Import_18 g) (gt_tutorref08_Import_20 g) (gt_tutorref08_Import_24 g) (gt_tutorref08_Import_31 g) (gt_tutorref08_Import_26 g) (gt_tutorref08_Import_41a g) (gt_tutorref08_Import_41b g) (gt_tutorref08_Import_27 g) (fun r0 r1 r2 r3 r4 r5 r6 r7 => K (.tup [.agg [.v (.int .i64 r0), .v (.int .i64 r1), .v (.int .i64 r2), .v (.int .i64 r3), .own 0, .own 1], .v (.int .i64 r4), .v (.int .i64 r5)]) [.row ⟨true, 3, (.int .i64), r6⟩, .row ⟨true, 3, (.int .i64), r7⟩]) b o0 o0_1 o0_2 o0_3 o1 o2 o3 o3_1 o3_2 o3_3 o4 o4_1 o4_2 o4_3 o5 o5_1 o5_2 o5_3 o6 o6_1 o6_2 o6_3 o7 o7_1 o7_2 o7_3 := by kernel_rfl

theorem gstep_tutorref08_Import_12 (l_tutorref08_take : LT_tutorref08_take) {R : Type} (g : List Item → St → Option R) (K : AV → List O → Option R) (b : List Int) (vat e o0 o0_1 o0_2 o0_3 : Int) (o1 o2 : List Int) (o3 : ByteArray) (o3_1 o3_2 o3_3 : Int) (o4 : ByteArray) (o4_1 o4_2 o4_3 o5 o5_1 o5_2 o5_3 : Int) (o6 o7 o8 : List Int) :
    runSeg Tryd.prog (T_tutorref08_Import @l_tutorref08_take) cuts_tutorref08_Import 0 g (finish Tryd.prog Tryd.f20 0 K) (at' Tryd.f20 12) (sta_tutorref08_Import_12 b vat e o0 o0_1 o0_2 o0_3 o1 o2 o3 o3_1 o3_2 o3_3 o4 o4_1 o4_2 o4_3 o5 o5_1 o5_2 o5_3 o6 o7 o8) =
    (fun (g20_4 : GT_tutorref08_Import_4 R) (g20_5 : GT_tutorref08_Import_5 R) (g20_12 : GT_tutorref08_Import_12 R) (g20_14 : GT_tutorref08_Import_14 R) (g20_17 : GT_tutorref08_Import_17 R) (g20_18 : GT_tutorref08_Import_18 R) (g20_20 : GT_tutorref08_Import_20 R) (g20_24 : GT_tutorref08_Import_24 R) (g20_31 : GT_tutorref08_Import_31 R) (g20_26 : GT_tutorref08_Import_26 R) (g20_41 : GT_tutorref08_Import_41a R) (g20_41b : GT_tutorref08_Import_41b R) (g20_27 : GT_tutorref08_Import_27 R) (K0 : Int → Int → Int → Int → Int → Int → (List Int) → (List Int) → Option R) (b : List Int) (vat e o0 o0_1 o0_2 o0_3 : Int) (o1 o2 : List Int) (o3 : ByteArray) (o3_1 o3_2 o3_3 : Int) (o4 : ByteArray) (o4_1 o4_2 o4_3 o5 o5_1 o5_2 o5_3 : Int) (o6 o7 o8 : List Int) =>
    bi (e != 0)
     (K0 0 0 0 0 e vat ([] : List Int) ([] : List Int))
     (g20_14 b vat o0 o0_1 o0_2 o0_3 o1 o2 o3 o3_1 o3_2 o3_3 o4 o4_1 o4_2 o4_3 o5 o5_1 o5_2 o5_3 o6 o7 o8)) (gt_tutorref08_Import_4 g) (gt_tutorref08_Import_5 g) (gt_tutorref08_Import_12 g) (gt_tutorref08_Import_14 g) (gt_tutorref08_Import_17 g) (gt_tutorref08_Import_18 g) (gt_tutorref08_Import_20 g) (gt_tutorref08_Import_24 g) (gt_tutorref08_Import_31 g) (gt_tutorref08_Import_26 g) (gt_tutorref08_Import_41a g) (gt_tutorref08_Import_41b g) (gt_tutorref08_Import_27 g) (fun r0 r1 r2 r3 r4 r5 r6 r7 => K (.tup [.agg [.v (.int .i64 r0), .v (.int .i64 r1), .v (.int .i64 r2), .v (.int .i64 r3), .own 0, .own 1], .v (.int .i64 r4), .v (.int .i64 r5)]) [.row ⟨true, 3, (.int .i64), r6⟩, .row ⟨true, 3, (.int .i64), r7⟩]) b vat e o0 o0_1 o0_2 o0_3 o1 o2 o3 o3_1 o3_2 o3_3 o4 o4_1 o4_2 o4_3 o5 o5_1 o5_2 o5_3 o6 o7 o8 := by kernel_rfl

theorem gstep_tutorref08_Import_14 (l_tutorref08_take : LT_tutorref08_take) {R : Type} (g : List Item → St → Option R) (K : AV → List O → Option R) (b : List Int) (vat o0 o0_1 o0_2 o0_3 : Int) (o1 o2 : List Int) (o3 : ByteArray) (o3_1 o3_2 o3_3 : Int) (o4 : ByteArray) (o4_1 o4_2 o4_3 o5 o5_1 o5_2 o5_3 : Int) (o6 o7 o8 : List Int) :
    runSeg Tryd.prog (T_tutorref08_Import @l_tutorref08_take) cuts_tutorref08_Import 0 g (finish Tryd.prog Tryd.f20 0 K) (at' Tryd.f20 14) (sta_tutorref08_Import_14 b vat o0 o0_1 o0_2 o0_3 o1 o2 o3 o3_1 o3_2 o3_3 o4 o4_1 o4_2 o4_3 o5 o5_1 o5_2 o5_3 o6 o7 o8) =
    (fun (g20_4 : GT_tutorref08_Import_4 R) (g20_5 : GT_tutorref08_Import_5 R) (g20_12 : GT_tutorref08_Import_12 R) (g20_14 : GT_tutorref08_Import_14 R) (g20_17 : GT_tutorref08_Import_17 R) (g20_18 : GT_tutorref08_Import_18 R) (g20_20 : GT_tutorref08_Import_20 R) (g20_24 : GT_tutorref08_Import_24 R) (g20_31 : GT_tutorref08_Import_31 R) (g20_26 : GT_tutorref08_Import_26 R) (g20_41 : GT_tutorref08_Import_41a R) (g20_41b : GT_tutorref08_Import_41b R) (g20_27 : GT_tutorref08_Import_27 R) (K0 : Int → Int → Int → Int → Int → Int → (List Int) → (List Int) → Option R) (b : List Int) (vat o0 o0_1 o0_2 o0_3 : Int) (o1 o2 : List Int) (o3 : ByteArray) (o3_1 o3_2 o3_3 : Int) (o4 : ByteArray) (o4_1 o4_2 o4_3 o5 o5_1 o5_2 o5_3 : Int) (o6 o7 o8 : List Int) =>
    bi (decide (0 ≤ (0 : Int) ∧ (0 : Int) < ((o8.length : Nat) : Int)))
     (bi (decide (0 ≤ (IntKind.i64.wrap ((o8.length : Int) - 1)) ∧ (IntKind.i64.wrap ((o8.length : Int) - 1)) < ((o8.length : Nat) : Int)))
      (twice
       (bi (o5 == 2)
        (bi (decide (0 ≤ (1 : Int) ∧ (1 : Int) < ((o8.length : Nat) : Int)))
         (g20_17 b vat o0 o0_1 o0_2 o0_3 o1 o2 o3 o3_1 o3_2 o3_3 o4 o4_1 o4_2 o4_3 o5 (o8.getD 0 0) (o8.getD 1 0) (o8.getD ((IntKind.i64.wrap ((o8.length : Int) - 1)).toNat) 0) o6 o7)
         none)
        (g20_17 b vat o0 o0_1 o0_2 o0_3 o1 o2 o3 o3_1 o3_2 o3_3 o4 o4_1 o4_2 o4_3 o5 (o8.getD 0 0) o5_2 (o8.getD ((IntKind.i64.wrap ((o8.length : Int) - 1)).toNat) 0) o6 o7)))
      none)
     none) (gt_tutorref08_Import_4 g) (gt_tutorref08_Import_5 g) (gt_tutorref08_Import_12 g) (gt_tutorref08_Import_14 g) (gt_tutorref08_Import_17 g) (gt_tutorref08_Import_18 g) (gt_tutorref08_Import_20 g) (gt_tutorref08_Import_24 g) (gt_tutorref08_Import_31 g) (gt_tutorref08_Import_26 g) (gt_tutorref08_Import_41a g) (gt_tutorref08_Import_41b g) (gt_tutorref08_Import_27 g) (fun r0 r1 r2 r3 r4 r5 r6 r7 => K (.tup [.agg [.v (.int .i64 r0), .v (.int .i64 r1), .v (.int .i64 r2), .v (.int .i64 r3), .own 0, .own 1], .v (.int .i64 r4), .v (.int .i64 r5)]) [.row ⟨true, 3, (.int .i64), r6⟩, .row ⟨true, 3, (.int .i64), r7⟩]) b vat o0 o0_1 o0_2 o0_3 o1 o2 o3 o3_1 o3_2 o3_3 o4 o4_1 o4_2 o4_3 o5 o5_1 o5_2 o5_3 o6 o7 o8 := by kernel_rfl

theorem gstep_tutorref08_Import_17 (l_tutorref08_take : LT_tutorref08_take) {R : Type} (g : List Item → St → Option R) (K : AV → List O → Option R) (b : List Int) (vat o0 o0_1 o0_2 o0_3 : Int) (o1 o2 : List Int) (o3 : ByteArray) (o3_1 o3_2 o3_3 : Int) (o4 : ByteArray) (o4_1 o4_2 o4_3 o5 o5_1 o5_2 o5_3 : Int) (o6 o7 : List Int) :
    runSeg Tryd.prog (T_tutorref08_Import @l_tutorref08_take) cuts_tutorref08_Import 0 g (finish Tryd.prog Tryd.f20 0 K) (at' Tryd.f20 17) (sta_tutorref08_Import_17 b vat o0 o0_1 o0_2 o0_3 o1 o2 o3 o3_1 o3_2 o3_3 o4 o4_1 o4_2 o4_3 o5 o5_1 o5_2 o5_3 o6 o7) =
    (fun (g20_4 : GT_tutorref08_Import_4 R) (g20_5 : GT_tutorref08_Import_5 R) (g20_12 : GT_tutorref08_Import_12 R) (g20_14 : GT_tutorref08_Import_14 R) (g20_17 : GT_tutorref08_Import_17 R) (g20_18 : GT_tutorref08_Import_18 R) (g20_20 : GT_tutorref08_Import_20 R) (g20_24 : GT_tutorref08_Import_24 R) (g20_31 : GT_tutorref08_Import_31 R) (g20_26 : GT_tutorref08_Import_26 R) (g20_41 : GT_tutorref08_Import_41a R) (g20_41b : GT_tutorref08_Import_41b R) (g20_27 : GT_tutorref08_Import_27 R) (K0 : Int → Int → Int → Int → Int → Int → (List Int) → (List Int) → Option R) (b : List Int) (vat o0 o0_1 o0_2 o0_3 : Int) (o1 o2 : List Int) (o3 : ByteArray) (o3_1 o3_2 o3_3 : Int) (o4 : ByteArray) (o4_1 o4_2 o4_3 o5 o5_1 o5_2 o5_3 : Int) (o6 o7 : List Int) =>
    both
     (twice
      (g20_18 b vat o0 o0_1 o0_2 o0_3 o1 o2 o3 o3_1 o3_2 o3_3 o4 o4_1 o4_2 o4_3 o5 o5_1 o5_2 o5_3 o6 o7 ByteArray.empty 0 (IntKind.i64.wrap (o5_3 - 1)) 32 ByteArray.empty 0 (IntKind.i64.wrap (o5_2 - 1)) 33))
     (twice
      (thrice
       (g20_18 b vat o0 o0_1 o0_2 o0_3 o1 o2 o3 o3_1 o3_2 o3_3 o4 o4_1 o4_2 o4_3 o5 o5_1 o5_2 o5_3 o6 o7 ByteArray.empty 0 (IntKind.i64.wrap (o5_3 - 1)) 32 ByteArray.empty 0 (IntKind.i64.wrap (o5_2 - 1)) 33)))) (gt_tutorref08_Import_4 g) (gt_tutorref08_Import_5 g) (gt_tutorref08_Import_12 g) (gt_tutorref08_Import_14 g) (gt_tutorref08_Import_17 g) (gt_tutorref08_Import_18 g) (gt_tutorref08_Import_20 g) (gt_tutorref08_Import_24 g) (gt_tutorref08_Import_31 g) (gt_tutorref08_Import_26 g) (gt_tutorref08_Import_41a g) (gt_tutorref08_Import_41b g) (gt_tutorref08_Import_27 g) (fun r0 r1 r2 r3 r4 r5 r6 r7 => K (.tup [.agg [.v (.int .i64 r0), .v (.int .i64 r1), .v (.int .i64 r2), .v (.int .i64 r3), .own 0, .own 1], .v (.int .i64 r4), .v (.int .i64 r5)]) [.row ⟨true, 3, (.int .i64), r6⟩, .row ⟨true, 3, (.int .i64), r7⟩]) b vat o0 o0_1 o0_2 o0_3 o1 o2 o3 o3_1 o3_2 o3_3 o4 o4_1 o4_2 o4_3 o5 o5_1 o5_2 o5_3 o6 o7 := by kernel_rfl

theorem gstep_tutorref08_Import_18 (l_tutorref08_take : LT_tutorref08_take) {R : Type} (g : List Item → St → Option R) (K : AV → List O → Option R) (b : List Int) (vat o0 o0_1 o0_2 o0_3 : Int) (o1 o2 : List Int) (o3 : ByteArray) (o3_1 o3_2 o3_3 : Int) (o4 : ByteArray) (o4_1 o4_2 o4_3 o5 o5_1 o5_2 o5_3 : Int) (o6 o7 : List Int) (o8 : ByteArray) (o8_1 o8_2 o8_3 : Int) (o9 : ByteArray) (o9_1 o9_2 o9_3 : Int) :
    runSeg Tryd.prog (T_tutorref08_Import @l_tutorref08_take) cuts_tutorref08_Import 0 g (finish Tryd.prog Tryd.f20 0 K) (at' Tryd.f20 18) (sta_tutorref08_Import_18 b vat o0 o0_1 o0_2 o0_3 o1 o2 o3 o3_1 o3_2 o3_3 o4 o4_1 o4_2 o4_3 o5 o5_1 o5_2 o5_3 o6 o7 o8 o8_1 o8_2 o8_3 o9 o9_1 o9_2 o9_3) =
    (fun (g20_4 : GT_tutorref08_Import_4 R) (g20_5 : GT_tutorref08_Import_5 R) (g20_12 : GT_tutorref08_Import_12 R) (g20_14 : GT_tutorref08_Import_14 R) (g20_17 : GT_tutorref08_Import_17 R) (g20_18 : GT_tutorref08_Import_18 R) (g20_20 : GT_tutorref08_Import_20 R) (g20_24 : GT_tutorref08_Import_24 R) (g20_31 : GT_tutorref08_Import_31 R) (g20_26 : GT_tutorref08_Import_26 R) (g20_41 : GT_tutorref08_Import_41a R) (g20_41b : GT_tutorref08_Import_41b R) (g20_27 : GT_tutorref08_Import_27 R) (K0 : Int → Int → Int → Int → Int → Int → (List Int) → (List Int) → Option R) (b : List Int) (vat o0 o0_1 o0_2 o0_3 : Int) (o1 o2 : List Int) (o3 : ByteArray) (o3_1 o3_2 o3_3 : Int) (o4 : ByteArray) (o4_1 o4_2 o4_3 o5 o5_1 o5_2 o5_3 : Int) (o6 o7 : List Int) (o8 : ByteArray) (o8_1 o8_2 o8_3 : Int) (o9 : ByteArray) (o9_1 o9_2 o9_3 : Int) =>
    g20_20 b vat 0 o0 o0_1 o0_2 o0_3 o1 o2 o3 o3_1 o3_2 o3_3 o4 o4_1 o4_2 o4_3 o5 o5_1 o5_2 o5_3 o6 o7 o8 o8_1 o8_2 o8_3 o9 o9_1 o9_2 o9_3 ([] : List (ByteArray × (Int × (Int × Int))))) (gt_tutorref08_Import_4 g) (gt_tutorref08_Import_5 g) (gt_tutorref08_Import_12 g) (gt_tutorref08_Import_14 g) (gt_tutorref08_Import_17 g) (gt_tutorref08_Import_18 g) (gt_tutorref08_Import_20 g) (gt_tutorref08_Import_24 g) (gt_tutorref08_Import_31 g) (gt_tutorref08_Import_26 g) (gt_tutorref08_Import_41a g) (gt_tutorref08_Import_41b g) (gt_tutorref08_Import_27 g) (fun r0 r1 r2 r3 r4 r5 r6 r7 => K (.tup [.agg [.v (.int .i64 r0), .v (.int .i64 r1), .v (.int .i64 r2), .v (.int .i64 r3), .own 0, .own 1], .v (.int .i64 r4), .v (.int .i64 r5)]) [.row ⟨true, 3, (.int .i64), r6⟩, .row ⟨true, 3, (.int .i64), r7⟩]) b vat o0 o0_1 o0_2 o0_3 o1 o2 o3 o3_1 o3_2 o3_3 o4 o4_1 o4_2 o4_3 o5 o5_1 o5_2 o5_3 o6 o7 o8 o8_1 o8_2 o8_3 o9 o9_1 o9_2 o9_3 := by kernel_rfl

theorem gstep_tutorref08_Import_20 (l_tutorref08_take : LT_tutorref08_take) {R : Type} (g : List Item → St → Option R) (K : AV → List O → Option R) (b : List Int) (vat x o0 o0_1 o0_2 o0_3 : Int) (o1 o2 : List Int) (o3 : ByteArray) (o3_1 o3_2 o3_3 : Int) (o4 : ByteArray) (o4_1 o4_2 o4_3 o5 o5_1 o5_2 o5_3 : Int) (o6 o7 : List Int) (o8 : ByteArray) (o8_1 o8_2 o8_3 : Int) (o9 : ByteArray) (o9_1 o9_2 o9_3 : Int) (o10 : List (ByteArray × (Int × (Int × Int)))) :
    runSeg Tryd.prog (T_tutorref08_Import @l_tutorref08_take) cuts_tutorref08_Import 0 g (finish Tryd.prog Tryd.f20 0 K) (at' Tryd.f20 20) (sta_tutorref08_Import_20 b vat x o0 o0_1 o0_2 o0_3 o1 o2 o3 o3_1 o3_2 o3_3 o4 o4_1 o4_2 o4_3 o5 o5_1 o5_2 o5_3 o6 o7 o8 o8_1 o8_2 o8_3 o9 o9_1 o9_2 o9_3 o10) =
    (fun (g20_4 : GT_tutorref08_Import_4 R) (g20_5 : GT_tutorref08_Import_5 R) (g20_12 : GT_tutorref08_Import_12 R) (g20_14 : GT_tutorref08_Import_14 R) (g20_17 : GT_tutorref08_Import_17 R) (g20_18 : GT_tutorref08_Import_18 R) (g20_20 : GT_tutorref08_Import_20 R) (g20_24 : GT_tutorref08_Import_24 R) (g20_31 : GT_tutorref08_Import_31 R) (g20_26 : GT_tutorref08_Import_26 R) (g20_41 : GT_tutorref08_Import_41a R) (g20_41b : GT_tutorref08_Import_41b R) (g20_27 : GT_tutorref08_Import_27 R) (K0 : Int → Int → Int → Int → Int → Int → (List Int) → (List Int) → Option R) (b : List Int) (vat x o0 o0_1 o0_2 o0_3 : Int) (o1 o2 : List Int) (o3 : ByteArray) (o3_1 o3_2 o3_3 : Int) (o4 : ByteArray) (o4_1 o4_2 o4_3 o5 o5_1 o5_2 o5_3 : Int) (o6 o7 : List Int) (o8 : ByteArray) (o8_1 o8_2 o8_3 : Int) (o9 : ByteArray) (o9_1 o9_2 o9_3 : Int) (o10 : List (ByteArray × (Int × (Int × Int)))) =>
    bi (decide (x < o5_1))
     (bi (o5 == 1)
      (bi (x == 0)
       (bi (decide ((o10.length + [(o9, (o9_1, (o9_2, o9_3)))].length) * 40 ≤ lim))
        (g20_24 b vat x o0 o0_1 o0_2 o0_3 o1 o2 o3 o3_1 o3_2 o3_3 o4 o4_1 o4_2 o4_3 o5 o5_1 o5_2 o5_3 o6 o7 o8 o8_1 o8_2 o8_3 o9 o9_1 o9_2 o9_3 (o10 ++ [(o9, (o9_1, (o9_2, o9_3)))]))
        none)
       (g20_24 b vat x o0 o0_1 o0_2 o0_3 o1 o2 o3 o3_1 o3_2 o3_3 o4 o4_1 o4_2 o4_3 o5 o5_1 o5_2 o5_3 o6 o7 o8 o8_1 o8_2 o8_3 o9 o9_1 o9_2 o9_3 o10))
      (g20_24 b vat x o0 o0_1 o0_2 o0_3 o1 o2 o3 o3_1 o3_2 o3_3 o4 o4_1 o4_2 o4_3 o5 o5_1 o5_2 o5_3 o6 o7 o8 o8_1 o8_2 o8_3 o9 o9_1 o9_2 o9_3 o10))
     (bi (decide ((o10.length + [(o4, (o4_1, (o4_2, o4_3)))].length) * 40 ≤ lim))
      (g20_31 b vat 0 o0 o0_1 o0_2 o0_3 o1 o2 o5 o5_1 o5_2 o5_3 o6 o7 (o10 ++ [(o4, (o4_1, (o4_2, o4_3)))]))
      none)) (gt_tutorref08_Import_4 g) (gt_tutorref08_Import_5 g) (gt_tutorref08_Import_12 g) (gt_tutorref08_Import_14 g) (gt_tutorref08_Import_17 g) (gt_tutorref08_Import_18 g) (gt_tutorref08_Import_20 g) (gt_tutorref08_Import_24 g) (gt_tutorref08_Import_31 g) (gt_tutorref08_Import_26 g) (gt_tutorref08_Import_41a g) (gt_tutorref08_Import_41b g) (gt_tutorref08_Import_27 g) (fun r0 r1 r2 r3 r4 r5 r6 r7 => K (.tup [.agg [.v (.int .i64 r0), .v (.int .i64 r1), .v (.int .i64 r2), .v (.int .i64 r3), .own 0, .own 1], .v (.int .i64 r4), .v (.int .i64 r5)]) [.row ⟨true, 3, (.int .i64), r6⟩, .row ⟨true, 3, (.int .i64), r7⟩]) b vat x o0 o0_1 o0_2 o0_3 o1 o2 o3 o3_1 o3_2 o3_3 o4 o4_1 o4_2 o4_3 o5 o5_1 o5_2 o5_3 o6 o7 o8 o8_1 o8_2 o8_3 o9 o9_1 o9_2 o9_3 o10 := by kernel_rfl

theorem gstep_tutorref08_Import_24 (l_tutorref08_take : LT_tutorref08_take) {R : Type} (g : List Item → St → Option R) (K : AV → List O → Option R) (b : List Int) (vat x o0 o0_1 o0_2 o0_3 : Int) (o1 o2 : List Int) (o3 : ByteArray) (o3_1 o3_2 o3_3 : Int) (o4 : ByteArray) (o4_1 o4_2 o4_3 o5 o5_1 o5_2 o5_3 : Int) (o6 o7 : List Int) (o8 : ByteArray) (o8_1 o8_2 o8_3 : Int) (o9 : ByteArray) (o9_1 o9_2 o9_3 : Int) (o10 : List (ByteArray × (Int × (Int × Int)))) :
    runSeg Tryd.prog (T_tutorref08_Import @l_tutorref08_take) cuts_tutorref08_Import 0 g (finish Tryd.prog Tryd.f20 0 K) (at' Tryd.f20 24) (sta_tutorref08_Import_24 b vat x o0 o0_1 o0_2 o0_3 o1 o2 o3 o3_1 o3_2 o3_3 o4 o4_1 o4_2 o4_3 o5 o5_1 o5_2 o5_3 o6 o7 o8 o8_1 o8_2 o8_3 o9 o9_1 o9_2 o9_3 o10) =
    (fun (g20_4 : GT_tutorref08_Import_4 R) (g20_5 : GT_tutorref08_Import_5 R) (g20_12 : GT_tutorref08_Import_12 R) (g20_14 : GT_tutorref08_Import_14 R) (g20_17 : GT_tutorref08_Import_17 R) (g20_18 : GT_tutorref08_Import_18 R) (g20_20 : GT_tutorref08_Import_20 R) (g20_24 : GT_tutorref08_Import_24 R) (g20_31 : GT_tutorref08_Import_31 R) (g20_26 : GT_tutorref08_Import_26 R) (g20_41 : GT_tutorref08_Import_41a R) (g20_41b : GT_tutorref08_Import_41b R) (g20_27 : GT_tutorref08_Import_27 R) (K0 : Int → Int → Int → Int → Int → Int → (List Int) → (List Int) → Option R) (b : List Int) (vat x o0 o0_1 o0_2 o0_3 : Int) (o1 o2 : List Int) (o3 : ByteArray) (o3_1 o3_2 o3_3 : Int) (o4 : ByteArray) (o4_1 o4_2 o4_3 o5 o5_1 o5_2 o5_3 : Int) (o6 o7 : List Int) (o8 : ByteArray) (o8_1 o8_2 o8_3 : Int) (o9 : ByteArray) (o9_1 o9_2 o9_3 : Int) (o10 : List (ByteArray × (Int × (Int × Int)))) =>
    bi (o5 == 1)
     (bi (decide ((o10.length + [(o3, (o3_1, (o3_2, o3_3)))].length) * 40 ≤ lim))
      (g20_26 b vat x o0 o0_1 o0_2 o0_3 o1 o2 o3 o3_1 o3_2 o3_3 o4 o4_1 o4_2 o4_3 o5 o5_1 o5_2 o5_3 o6 o7 o8 o8_1 o8_2 o8_3 o9 o9_1 o9_2 o9_3 (o10 ++ [(o3, (o3_1, (o3_2, o3_3)))]))
      none)
     (bi (decide (x > 0))
      (bi (decide ((o10.length + [(o3, (o3_1, (o3_2, o3_3)))].length) * 40 ≤ lim))
       (g20_26 b vat x o0 o0_1 o0_2 o0_3 o1 o2 o3 o3_1 o3_2 o3_3 o4 o4_1 o4_2 o4_3 o5 o5_1 o5_2 o5_3 o6 o7 o8 o8_1 o8_2 o8_3 o9 o9_1 o9_2 o9_3 (o10 ++ [(o3, (o3_1, (o3_2, o3_3)))]))
       none)
      (g20_26 b vat x o0 o0_1 o0_2 o0_3 o1 o2 o3 o3_1 o3_2 o3_3 o4 o4_1 o4_2 o4_3 o5 o5_1 o5_2 o5_3 o6 o7 o8 o8_1 o8_2 o8_3 o9 o9_1 o9_2 o9_3 o10))) (gt_tutorref08_Import_4 g) (gt_tutorref08_Import_5 g) (gt_tutorref08_Import_12 g) (gt_tutorref08_Import_14 g) (gt_tutorref08_Import_17 g) (gt_tutorref08_Import_18 g) (gt_tutorref08_Import_20 g) (gt_tutorref08_Import_24 g) (gt_tutorref08_Import_31 g) (gt_tutorref08_Import_26 g) (gt_tutorref08_Import_41a g) (gt_tutorref08_Import_41b g) (gt_tutorref08_Import_27 g) (fun r0 r1 r2 r3 r4 r5 r6 r7 => K (.tup [.agg [.v (.int .i64 r0), .v (.int .i64 r1), .v (.int .i64 r2), .v (.int .i64 r3), .own 0, .own 1], .v (.int .i64 r4), .v (.int .i64 r5)]) [.row ⟨true, 3, (.int .i64), r6⟩, .row ⟨true, 3, (.int .i64), r7⟩]) b vat x o0 o0_1 o0_2 o0_3 o1 o2 o3 o3_1 o3_2 o3_3 o4 o4_1 o4_2 o4_3 o5 o5_1 o5_2 o5_3 o6 o7 o8 o8_1 o8_2 o8_3 o9 o9_1 o9_2 o9_3 o10 := by kernel_rfl

theorem gstep_tutorref08_Import_31 (l_tutorref08_take : LT_tutorref08_take) {R : Type} (g : List Item → St → Option R) (K : AV → List O → Option R) (b : List Int) (vat s o0 o0_1 o0_2 o0_3 : Int) (o1 o2 : List Int) (o3 o3_1 o3_2 o3_3 : Int) (o4 o5 : List Int) (o6 : List (ByteArray × (Int × (Int × Int)))) :
    runSeg Tryd.prog (T_tutorref08_Import @l_tutorref08_take) cuts_tutorref08_Import 0 g (finish Tryd.prog Tryd.f20 0 K) (at' Tryd.f20 31) (sta_tutorref08_Import_31 b vat s o0 o0_1 o0_2 o0_3 o1 o2 o3 o3_1 o3_2 o3_3 o4 o5 o6) =
    (fun (g20_4 : GT_tutorref08_Import_4 R) (g20_5 : GT_tutorref08_Import_5 R) (g20_12 : GT_tutorref08_Import_12 R) (g20_14 : GT_tutorref08_Import_14 R) (g20_17 : GT_tutorref08_Import_17 R) (g20_18 : GT_tutorref08_Import_18 R) (g20_20 : GT_tutorref08_Import_20 R) (g20_24 : GT_tutorref08_Import_24 R) (g20_31 : GT_tutorref08_Import_31 R) (g20_26 : GT_tutorref08_Import_26 R) (g20_41 : GT_tutorref08_Import_41a R) (g20_41b : GT_tutorref08_Import_41b R) (g20_27 : GT_tutorref08_Import_27 R) (K0 : Int → Int → Int → Int → Int → Int → (List Int) → (List Int) → Option R) (b : List Int) (vat s o0 o0_1 o0_2 o0_3 : Int) (o1 o2 : List Int) (o3 o3_1 o3_2 o3_3 : Int) (o4 o5 : List Int) (o6 : List (ByteArray × (Int × (Int × Int)))) =>
    bi (decide (s < o3_3))
     (l_tutorref08_take b vat o6
      (fun r10 r11 r12 =>
       bi (r11 != 0)
        (K0 0 0 0 0 r11 r10 ([] : List Int) ([] : List Int))
        (bi (o3 == 1)
         (bi (decide (0 ≤ (0 : Int) ∧ (0 : Int) < ((r12.length : Nat) : Int)))
          (bi (decide ((o5.length + [r12.getD 0 0].length) * 8 ≤ lim))
           (bi (decide (0 ≤ (1 : Int) ∧ (1 : Int) ≤ ((r12.length : Nat) : Int)))
            (g20_41 b r10 s (r12.length - 1) 0 o0 o0_1 o0_2 o0_3 o1 o2 o3 o3_1 o3_2 o3_3 o4 (o5 ++ [r12.getD 0 0]) o6 r12)
            none)
           none)
          none)
         (g20_41b b r10 s 0 o0 o0_1 o0_2 o0_3 o1 o2 o3 o3_1 o3_2 o3_3 o4 o5 o6 r12))))
     (bi (decide (vat < (b.length : Int)))
      (K0 0 0 0 0 6 vat ([] : List Int) ([] : List Int))
      (K0 o3 o3_1 o3_2 o3_3 0 vat o4 o5))) (gt_tutorref08_Import_4 g) (gt_tutorref08_Import_5 g) (gt_tutorref08_Import_12 g) (gt_tutorref08_Import_14 g) (gt_tutorref08_Import_17 g) (gt_tutorref08_Import_18 g) (gt_tutorref08_Import_20 g) (gt_tutorref08_Import_24 g) (gt_tutorref08_Import_31 g) (gt_tutorref08_Import_26 g) (gt_tutorref08_Import_41a g) (gt_tutorref08_Import_41b g) (gt_tutorref08_Import_27 g) (fun r0 r1 r2 r3 r4 r5 r6 r7 => K (.tup [.agg [.v (.int .i64 r0), .v (.int .i64 r1), .v (.int .i64 r2), .v (.int .i64 r3), .own 0, .own 1], .v (.int .i64 r4), .v (.int .i64 r5)]) [.row ⟨true, 3, (.int .i64), r6⟩, .row ⟨true, 3, (.int .i64), r7⟩]) b vat s o0 o0_1 o0_2 o0_3 o1 o2 o3 o3_1 o3_2 o3_3 o4 o5 o6 := by kernel_rfl

theorem gstep_tutorref08_Import_26 (l_tutorref08_take : LT_tutorref08_take) {R : Type} (g : List Item → St → Option R) (K : AV → List O → Option R) (b : List Int) (vat x o0 o0_1 o0_2 o0_3 : Int) (o1 o2 : List Int) (o3 : ByteArray) (o3_1 o3_2 o3_3 : Int) (o4 : ByteArray) (o4_1 o4_2 o4_3 o5 o5_1 o5_2 o5_3 : Int) (o6 o7 : List Int) (o8 : ByteArray) (o8_1 o8_2 o8_3 : Int) (o9 : ByteArray) (o9_1 o9_2 o9_3 : Int) (o10 : List (ByteArray × (Int × (Int × Int)))) :
    runSeg Tryd.prog (T_tutorref08_Import @l_tutorref08_take) cuts_tutorref08_Import 0 g (finish Tryd.prog Tryd.f20 0 K) (at' Tryd.f20 26) (sta_tutorref08_Import_26 b vat x o0 o0_1 o0_2 o0_3 o1 o2 o3 o3_1 o3_2 o3_3 o4 o4_1 o4_2 o4_3 o5 o5_1 o5_2 o5_3 o6 o7 o8 o8_1 o8_2 o8_3 o9 o9_1 o9_2 o9_3 o10) =
    (fun (g20_4 : GT_tutorref08_Import_4 R) (g20_5 : GT_tutorref08_Import_5 R) (g20_12 : GT_tutorref08_Import_12 R) (g20_14 : GT_tutorref08_Import_14 R) (g20_17 : GT_tutorref08_Import_17 R) (g20_18 : GT_tutorref08_Import_18 R) (g20_20 : GT_tutorref08_Import_20 R) (g20_24 : GT_tutorref08_Import_24 R) (g20_31 : GT_tutorref08_Import_31 R) (g20_26 : GT_tutorref08_Import_26 R) (g20_41 : GT_tutorref08_Import_41a R) (g20_41b : GT_tutorref08_Import_41b R) (g20_27 : GT_tutorref08_Import_27 R) (K0 : Int → Int → Int → Int → Int → Int → (List Int) → (List Int) → Option R) (b : List Int) (vat x o0 o0_1 o0_2 o0_3 : Int) (o1 o2 : List Int) (o3 : ByteArray) (o3_1 o3_2 o3_3 : Int) (o4 : ByteArray) (o4_1 o4_2 o4_3 o5 o5_1 o5_2 o5_3 : Int) (o6 o7 : List Int) (o8 : ByteArray) (o8_1 o8_2 o8_3 : Int) (o9 : ByteArray) (o9_1 o9_2 o9_3 : Int) (o10 : List (ByteArray × (Int × (Int × Int)))) =>
    bi (decide ((o10.length + [(o8, (o8_1, (o8_2, o8_3)))].length) * 40 ≤ lim))
     (g20_27 b vat x o0 o0_1 o0_2 o0_3 o1 o2 o3 o3_1 o3_2 o3_3 o4 o4_1 o4_2 o4_3 o5 o5_1 o5_2 o5_3 o6 o7 o8 o8_1 o8_2 o8_3 o9 o9_1 o9_2 o9_3 (o10 ++ [(o8, (o8_1, (o8_2, o8_3)))]))
     none) (gt_tutorref08_Import_4 g) (gt_tutorref08_Import_5 g) (gt_tutorref08_Import_12 g) (gt_tutorref08_Import_14 g) (gt_tutorref08_Import_17 g) (gt_tutorref08_Import_18 g) (gt_tutorref08_Import_20 g) (gt_tutorref08_Import_24 g) (gt_tutorref08_Import_31 g) (gt_tutorref08_Import_26 g) (gt_tutorref08_Import_41a g) (gt_tutorref08_Import_41b g) (gt_tutorref08_Import_27 g) (fun r0 r1 r2 r3 r4 r5 r6 r7 => K (.tup [.agg [.v (.int .i64 r0), .v (.int .i64 r1), .v (.int .i64 r2), .v (.int .i64 r3), .own 0, .own 1], .v (.int .i64 r4), .v (.int .i64 r5)]) [.row ⟨true, 3, (.int .i64), r6⟩, .row ⟨true, 3, (.int .i64), r7⟩]) b vat x o0 o0_1 o0_2 o0_3 o1 o2 o3 o3_1 o3_2 o3_3 o4 o4_1 o4_2 o4_3 o5 o5_1 o5_2 o5_3 o6 o7 o8 o8_1 o8_2 o8_3 o9 o9_1 o9_2 o9_3 o10 := by kernel_rfl

theorem gstep_tutorref08_Import_41a (l_tutorref08_take : LT_tutorref08_take) {R : Type} (g : List Item → St → Option R) (K : AV → List O → Option R) (b : List Int) (vat s : Int) (l : Nat) (i o0 o0_1 o0_2 o0_3 : Int) (o1 o2 : List Int) (o3 o3_1 o3_2 o3_3 : Int) (o4 o5 : List Int) (o6 : List (ByteArray × (Int × (Int × Int)))) (o7 : List Int) :
    runSeg Tryd.prog (T_tutorref08_Import @l_tutorref08_take) cuts_tutorref08_Import 0 g (finish Tryd.prog Tryd.f20 0 K) (at' Tryd.f20 41) (sta_tutorref08_Import_41a b vat s l i o0 o0_1 o0_2 o0_3 o1 o2 o3 o3_1 o3_2 o3_3 o4 o5 o6 o7) =
    (fun (g20_4 : GT_tutorref08_Import_4 R) (g20_5 : GT_tutorref08_Import_5 R) (g20_12 : GT_tutorref08_Import_12 R) (g20_14 : GT_tutorref08_Import_14 R) (g20_17 : GT_tutorref08_Import_17 R) (g20_18 : GT_tutorref08_Import_18 R) (g20_20 : GT_tutorref08_Import_20 R) (g20_24 : GT_tutorref08_Import_24 R) (g20_31 : GT_tutorref08_Import_31 R) (g20_26 : GT_tutorref08_Import_26 R) (g20_41 : GT_tutorref08_Import_41a R) (g20_41b : GT_tutorref08_Import_41b R) (g20_27 : GT_tutorref08_Import_27 R) (K0 : Int → Int → Int → Int → Int → Int → (List Int) → (List Int) → Option R) (b : List Int) (vat s : Int) (l : Nat) (i o0 o0_1 o0_2 o0_3 : Int) (o1 o2 : List Int) (o3 o3_1 o3_2 o3_3 : Int) (o4 o5 : List Int) (o6 : List (ByteArray × (Int × (Int × Int)))) (o7 : List Int) =>
    bi (decide (i < ((l : Nat) : Int)))
     (bi (o3 == 2)
      (bi ((i.tmod 2) == 1)
       (bi (decide (0 ≤ i ∧ i < ((l : Nat) : Int)))
        (bi (decide ((o5.length + [o7.getD (1 + i.toNat) 0].length) * 8 ≤ lim))
         (g20_41 b vat s l (IntKind.i64.wrap (i + 1)) o0 o0_1 o0_2 o0_3 o1 o2 o3 o3_1 o3_2 o3_3 o4 (o5 ++ [o7.getD (1 + i.toNat) 0]) o6 o7)
         none)
        none)
       (bi (decide (0 ≤ i ∧ i < ((l : Nat) : Int)))
        (bi (decide ((o4.length + [o7.getD (1 + i.toNat) 0].length) * 8 ≤ lim))
         (g20_41 b vat s l (IntKind.i64.wrap (i + 1)) o0 o0_1 o0_2 o0_3 o1 o2 o3 o3_1 o3_2 o3_3 (o4 ++ [o7.getD (1 + i.toNat) 0]) o5 o6 o7)
         none)
        none))
      (bi (decide (0 ≤ i ∧ i < ((l : Nat) : Int)))
       (bi (decide ((o4.length + [o7.getD (1 + i.toNat) 0].length) * 8 ≤ lim))
        (g20_41 b vat s l (IntKind.i64.wrap (i + 1)) o0 o0_1 o0_2 o0_3 o1 o2 o3 o3_1 o3_2 o3_3 (o4 ++ [o7.getD (1 + i.toNat) 0]) o5 o6 o7)
        none)
       none))
     (g20_31 b vat (IntKind.i64.wrap (s + 1)) o0 o0_1 o0_2 o0_3 o1 o2 o3 o3_1 o3_2 o3_3 o4 o5 o6)) (gt_tutorref08_Import_4 g) (gt_tutorref08_Import_5 g) (gt_tutorref08_Import_12 g) (gt_tutorref08_Import_14 g) (gt_tutorref08_Import_17 g) (gt_tutorref08_Import_18 g) (gt_tutorref08_Import_20 g) (gt_tutorref08_Import_24 g) (gt_tutorref08_Import_31 g) (gt_tutorref08_Import_26 g) (gt_tutorref08_Import_41a g) (gt_tutorref08_Import_41b g) (gt_tutorref08_Import_27 g) (fun r0 r1 r2 r3 r4 r5 r6 r7 => K (.tup [.agg [.v (.int .i64 r0), .v (.int .i64 r1), .v (.int .i64 r2), .v (.int .i64 r3), .own 0, .own 1], .v (.int .i64 r4), .v (.int .i64 r5)]) [.row ⟨true, 3, (.int .i64), r6⟩, .row ⟨true, 3, (.int .i64), r7⟩]) b vat s l i o0 o0_1 o0_2 o0_3 o1 o2 o3 o3_1 o3_2 o3_3 o4 o5 o6 o7 := by kernel_rfl

theorem gstep_tutorref08_Import_41b (l_tutorref08_take : LT_tutorref08_take) {R : Type} (g : List Item → St → Option R) (K : AV → List O → Option R) (b : List Int) (vat s i o0 o0_1 o0_2 o0_3 : Int) (o1 o2 : List Int) (o3 o3_1 o3_2 o3_3 : Int) (o4 o5 : List Int) (o6 : List (ByteArray × (Int × (Int × Int)))) (o7 : List Int) :
    runSeg Tryd.prog (T_tutorref08_Import @l_tutorref08_take) cuts_tutorref08_Import 0 g (finish Tryd.prog Tryd.f20 0 K) (at' Tryd.f20 41) (sta_tutorref08_Import_41b b vat s i o0 o0_1 o0_2 o0_3 o1 o2 o3 o3_1 o3_2 o3_3 o4 o5 o6 o7) =
    (fun (g20_4 : GT_tutorref08_Import_4 R) (g20_5 : GT_tutorref08_Import_5 R) (g20_12 : GT_tutorref08_Import_12 R) (g20_14 : GT_tutorref08_Import_14 R) (g20_17 : GT_tutorref08_Import_17 R) (g20_18 : GT_tutorref08_Import_18 R) (g20_20 : GT_tutorref08_Import_20 R) (g20_24 : GT_tutorref08_Import_24 R) (g20_31 : GT_tutorref08_Import_31 R) (g20_26 : GT_tutorref08_Import_26 R) (g20_41 : GT_tutorref08_Import_41a R) (g20_41b : GT_tutorref08_Import_41b R) (g20_27 : GT_tutorref08_Import_27 R) (K0 : Int → Int → Int → Int → Int → Int → (List Int) → (List Int) → Option R) (b : List Int) (vat s i o0 o0_1 o0_2 o0_3 : Int) (o1 o2 : List Int) (o3 o3_1 o3_2 o3_3 : Int) (o4 o5 : List Int) (o6 : List (ByteArray × (Int × (Int × Int)))) (o7 : List Int) =>
    bi (decide (i < (o7.length : Int)))
     (bi (o3 == 2)
      (bi ((i.tmod 2) == 1)
       (bi (decide (0 ≤ i ∧ i < ((o7.length : Nat) : Int)))
        (bi (decide ((o5.length + [o7.getD i.toNat 0].length) * 8 ≤ lim))
         (g20_41b b vat s (IntKind.i64.wrap (i + 1)) o0 o0_1 o0_2 o0_3 o1 o2 o3 o3_1 o3_2 o3_3 o4 (o5 ++ [o7.getD i.toNat 0]) o6 o7)
         none)
        none)
       (bi (decide (0 ≤ i ∧ i < ((o7.length : Nat) : Int)))
        (bi (decide ((o4.length + [o7.getD i.toNat 0].length) * 8 ≤ lim))
         (g20_41b b vat s (IntKind.i64.wrap (i + 1)) o0 o0_1 o0_2 o0_3 o1 o2 o3 o3_1 o3_2 o3_3 (o4 ++ [o7.getD i.toNat 0]) o5 o6 o7)
         none)
        none))
      (bi (decide (0 ≤ i ∧ i < ((o7.length : Nat) : Int)))
       (bi (decide ((o4.length + [o7.getD i.toNat 0].length) * 8 ≤ lim))
        (g20_41b b vat s (IntKind.i64.wrap (i + 1)) o0 o0_1 o0_2 o0_3 o1 o2 o3 o3_1 o3_2 o3_3 (o4 ++ [o7.getD i.toNat 0]) o5 o6 o7)
        none)
       none))
     (g20_31 b vat (IntKind.i64.wrap (s + 1)) o0 o0_1 o0_2 o0_3 o1 o2 o3 o3_1 o3_2 o3_3 o4 o5 o6)) (gt_tutorref08_Import_4 g) (gt_tutorref08_Import_5 g) (gt_tutorref08_Import_12 g) (gt_tutorref08_Import_14 g) (gt_tutorref08_Import_17 g) (gt_tutorref08_Import_18 g) (gt_tutorref08_Import_20 g) (gt_tutorref08_Import_24 g) (gt_tutorref08_Import_31 g) (gt_tutorref08_Import_26 g) (gt_tutorref08_Import_41a g) (gt_tutorref08_Import_41b g) (gt_tutorref08_Import_27 g) (fun r0 r1 r2 r3 r4 r5 r6 r7 => K (.tup [.agg [.v (.int .i64 r0), .v (.int .i64 r1), .v (.int .i64 r2), .v (.int .i64 r3), .own 0, .own 1], .v (.int .i64 r4), .v (.int .i64 r5)]) [.row ⟨true, 3, (.int .i64), r6⟩, .row ⟨true, 3, (.int .i64), r7⟩]) b vat s i o0 o0_1 o0_2 o0_3 o1 o2 o3 o3_1 o3_2 o3_3 o4 o5 o6 o7 := by kernel_rfl

theorem gstep_tutorref08_Import_27 (l_tutorref08_take : LT_tutorref08_take) {R : Type} (g : List Item → St → Option R) (K : AV → List O → Option R) (b : List Int) (vat x o0 o0_1 o0_2 o0_3 : Int) (o1 o2 : List Int) (o3 : ByteArray) (o3_1 o3_2 o3_3 : Int) (o4 : ByteArray) (o4_1 o4_2 o4_3 o5 o5_1 o5_2 o5_3 : Int) (o6 o7 : List Int) (o8 : ByteArray) (o8_1 o8_2 o8_3 : Int) (o9 : ByteArray) (o9_1 o9_2 o9_3 : Int) (o10 : List (ByteArray × (Int × (Int × Int)))) :
    runSeg Tryd.prog (T_tutorref08_Import @l_tutorref08_take) cuts_tutorref08_Import 0 g (finish Tryd.prog Tryd.f20 0 K) (at' Tryd.f20 27) (sta_tutorref08_Import_27 b vat x o0 o0_1 o0_2 o0_3 o1 o2 o3 o3_1 o3_2 o3_3 o4 o4_1 o4_2 o4_3 o5 o5_1 o5_2 o5_3 o6 o7 o8 o8_1 o8_2 o8_3 o9 o9_1 o9_2 o9_3 o10) =
    (fun (g20_4 : GT_tutorref08_Import_4 R) (g20_5 : GT_tutorref08_Import_5 R) (g20_12 : GT_tutorref08_Import_12 R) (g20_14 : GT_tutorref08_Import_14 R) (g20_17 : GT_tutorref08_Import_17 R) (g20_18 : GT_tutorref08_Import_18 R) (g20_20 : GT_tutorref08_Import_20 R) (g20_24 : GT_tutorref08_Import_24 R) (g20_31 : GT_tutorref08_Import_31 R) (g20_26 : GT_tutorref08_Import_26 R) (g20_41 : GT_tutorref08_Import_41a R) (g20_41b : GT_tutorref08_Import_41b R) (g20_27 : GT_tutorref08_Import_27 R) (K0 : Int → Int → Int → Int → Int → Int → (List Int) → (List Int) → Option R) (b : List Int) (vat x o0 o0_1 o0_2 o0_3 : Int) (o1 o2 : List Int) (o3 : ByteArray) (o3_1 o3_2 o3_3 : Int) (o4 : ByteArray) (o4_1 o4_2 o4_3 o5 o5_1 o5_2 o5_3 : Int) (o6 o7 : List Int) (o8 : ByteArray) (o8_1 o8_2 o8_3 : Int) (o9 : ByteArray) (o9_1 o9_2 o9_3 : Int) (o10 : List (ByteArray × (Int × (Int × Int)))) =>
    bi (o5 == 2)
     (bi (decide ((o10.length + [((ByteArray.mk #[47]), (0, (0, 0))), (o9, (o9_1, (o9_2, o9_3)))].length) * 40 ≤ lim))
      (g20_20 b vat (IntKind.i64.wrap (x + 1)) o0 o0_1 o0_2 o0_3 o1 o2 o3 o3_1 o3_2 o3_3 o4 o4_1 o4_2 o4_3 o5 o5_1 o5_2 o5_3 o6 o7 o8 o8_1 o8_2 o8_3 o9 o9_1 o9_2 o9_3 (o10 ++ [((ByteArray.mk #[47]), (0, (0, 0))), (o9, (o9_1, (o9_2, o9_3)))]))
      none)
     (g20_20 b vat (IntKind.i64.wrap (x + 1)) o0 o0_1 o0_2 o0_3 o1 o2 o3 o3_1 o3_2 o3_3 o4 o4_1 o4_2 o4_3 o5 o5_1 o5_2 o5_3 o6 o7 o8 o8_1 o8_2 o8_3 o9 o9_1 o9_2 o9_3 o10)) (gt_tutorref08_Import_4 g) (gt_tutorref08_Import_5 g) (gt_tutorref08_Import_12 g) (gt_tutorref08_Import_14 g) (gt_tutorref08_Import_17 g) (gt_tutorref08_Import_18 g) (gt_tutorref08_Import_20 g) (gt_tutorref08_Import_24 g) (gt_tutorref08_Import_31 g) (gt_tutorref08_Import_26 g) (gt_tutorref08_Import_41a g) (gt_tutorref08_Import_41b g) (gt_tutorref08_Import_27 g) (fun r0 r1 r2 r3 r4 r5 r6 r7 => K (.tup [.agg [.v (.int .i64 r0), .v (.int .i64 r1), .v (.int .i64 r2), .v (.int .i64 r3), .own 0, .own 1], .v (.int .i64 r4), .v (.int .i64 r5)]) [.row ⟨true, 3, (.int .i64), r6⟩, .row ⟨true, 3, (.int .i64), r7⟩]) b vat x o0 o0_1 o0_2 o0_3 o1 o2 o3 o3_1 o3_2 o3_3 o4 o4_1 o4_2 o4_3 o5 o5_1 o5_2 o5_3 o6 o7 o8 o8_1 o8_2 o8_3 o9 o9_1 o9_2 o9_3 o10 := by kernel_rfl

theorem gentry_tutorref08_Import (l_tutorref08_take : LT_tutorref08_take) {R : Type} (fuel : Nat) (K : AV → List O → Option R) (b : List Int) :
    fnRun Tryd.prog (T_tutorref08_Import @l_tutorref08_take) cuts_tutorref08_Import Tryd.f20 fuel [.rd ⟨false, 5, (.int .u8), b⟩] [] K =
    (fun (g20_4 : GT_tutorref08_Import_4 R) (g20_5 : GT_tutorref08_Import_5 R) (g20_12 : GT_tutorref08_Import_12 R) (g20_14 : GT_tutorref08_Import_14 R) (g20_17 : GT_tutorref08_Import_17 R) (g20_18 : GT_tutorref08_Import_18 R) (g20_20 : GT_tutorref08_Import_20 R) (g20_24 : GT_tutorref08_Import_24 R) (g20_31 : GT_tutorref08_Import_31 R) (g20_26 : GT_tutorref08_Import_26 R) (g20_41 : GT_tutorref08_Import_41a R) (g20_41b : GT_tutorref08_Import_41b R) (g20_27 : GT_tutorref08_Import_27 R) (K0 : Int → Int → Int → Int → Int → Int → (List Int) → (List Int) → Option R) (b : List Int) =>
    bi (decide ((b.length : Int) > 16777216))
     (K0 0 0 0 0 2 0 ([] : List Int) ([] : List Int))
     (g20_4 b 0 0 0 0 ([] : List Int) ([] : List Int) ByteArray.empty 1 64 1 ByteArray.empty 1 64 33 ByteArray.empty 1 1024 3)) (gt_tutorref08_Import_4 (runO Tryd.prog (T_tutorref08_Import @l_tutorref08_take) cuts_tutorref08_Import 0 (finish Tryd.prog Tryd.f20 0 K) fuel)) (gt_tutorref08_Import_5 (runO Tryd.prog (T_tutorref08_Import @l_tutorref08_take) cuts_tutorref08_Import 0 (finish Tryd.prog Tryd.f20 0 K) fuel)) (gt_tutorref08_Import_12 (runO Tryd.prog (T_tutorref08_Import @l_tutorref08_take) cuts_tutorref08_Import 0 (finish Tryd.prog Tryd.f20 0 K) fuel)) (gt_tutorref08_Import_14 (runO Tryd.prog (T_tutorref08_Import @l_tutorref08_take) cuts_tutorref08_Import 0 (finish Tryd.prog Tryd.f20 0 K) fuel)) (gt_tutorref08_Import_17 (runO Tryd.prog (T_tutorref08_Import @l_tutorref08_take) cuts_tutorref08_Import 0 (finish Tryd.prog Tryd.f20 0 K) fuel)) (gt_tutorref08_Import_18 (runO Tryd.prog (T_tutorref08_Import @l_tutorref08_take) cuts_tutorref08_Import 0 (finish Tryd.prog Tryd.f20 0 K) fuel)) (gt_tutorref08_Import_20 (runO Tryd.prog (T_tutorref08_Import @l_tutorref08_take) cuts_tutorref08_Import 0 (finish Tryd.prog Tryd.f20 0 K) fuel)) (gt_tutorref08_Import_24 (runO Tryd.prog (T_tutorref08_Import @l_tutorref08_take) cuts_tutorref08_Import 0 (finish Tryd.prog Tryd.f20 0 K) fuel)) (gt_tutorref08_Import_31 (runO Tryd.prog (T_tutorref08_Import @l_tutorref08_take) cuts_tutorref08_Import 0 (finish Tryd.prog Tryd.f20 0 K) fuel)) (gt_tutorref08_Import_26 (runO Tryd.prog (T_tutorref08_Import @l_tutorref08_take) cuts_tutorref08_Import 0 (finish Tryd.prog Tryd.f20 0 K) fuel)) (gt_tutorref08_Import_41a (runO Tryd.prog (T_tutorref08_Import @l_tutorref08_take) cuts_tutorref08_Import 0 (finish Tryd.prog Tryd.f20 0 K) fuel)) (gt_tutorref08_Import_41b (runO Tryd.prog (T_tutorref08_Import @l_tutorref08_take) cuts_tutorref08_Import 0 (finish Tryd.prog Tryd.f20 0 K) fuel)) (gt_tutorref08_Import_27 (runO Tryd.prog (T_tutorref08_Import @l_tutorref08_take) cuts_tutorref08_Import 0 (finish Tryd.prog Tryd.f20 0 K) fuel)) (fun r0 r1 r2 r3 r4 r5 r6 r7 => K (.tup [.agg [.v (.int .i64 r0), .v (.int .i64 r1), .v (.int .i64 r2), .v (.int .i64 r3), .own 0, .own 1], .v (.int .i64 r4), .v (.int .i64 r5)]) [.row ⟨true, 3, (.int .i64), r6⟩, .row ⟨true, 3, (.int .i64), r7⟩]) b := by kernel_rfl

theorem runs_tutorref08_Import {R : Type} (K : AV → List O → Option R) : ∀ fuel : Nat,
    (gt_tutorref08_Import_4 (runO Tryd.prog (T_tutorref08_Import @l_tutorref08_take) cuts_tutorref08_Import 0 (finish Tryd.prog Tryd.f20 0 K) fuel)) = (run_tutorref08_Import (fun r0 r1 r2 r3 r4 r5 r6 r7 => K (.tup [.agg [.v (.int .i64 r0), .v (.int .i64 r1), .v (.int .i64 r2), .v (.int .i64 r3), .own 0, .own 1], .v (.int .i64 r4), .v (.int .i64 r5)]) [.row ⟨true, 3, (.int .i64), r6⟩, .row ⟨true, 3, (.int .i64), r7⟩]) fuel).1 ∧
    (gt_tutorref08_Import_5 (runO Tryd.prog (T_tutorref08_Import @l_tutorref08_take) cuts_tutorref08_Import 0 (finish Tryd.prog Tryd.f20 0 K) fuel)) = (run_tutorref08_Import (fun r0 r1 r2 r3 r4 r5 r6 r7 => K (.tup [.agg [.v (.int .i64 r0), .v (.int .i64 r1), .v (.int .i64 r2), .v (.int .i64 r3), .own 0, .own 1], .v (.int .i64 r4), .v (.int .i64 r5)]) [.row ⟨true, 3, (.int .i64), r6⟩, .row ⟨true, 3, (.int .i64), r7⟩]) fuel).2.1 ∧
    (gt_tutorref08_Import_12 (runO Tryd.prog (T_tutorref08_Import @l_tutorref08_take) cuts_tutorref08_Import 0 (finish Tryd.prog Tryd.f20 0 K) fuel)) = (run_tutorref08_Import (fun r0 r1 r2 r3 r4 r5 r6 r7 => K (.tup [.agg [.v (.int .i64 r0), .v (.int .i64 r1), .v (.int .i64 r2), .v (.int .i64 r3), .own 0, .own 1], .v (.int .i64 r4), .v (.int .i64 r5)]) [.row ⟨true, 3, (.int .i64), r6⟩, .row ⟨true, 3, (.int .i64), r7⟩]) fuel).2.2.1 ∧
    (gt_tutorref08_Import_14 (runO Tryd.prog (T_tutorref08_Import @l_tutorref08_take) cuts_tutorref08_Import 0 (finish Tryd.prog Tryd.f20 0 K) fuel)) = (run_tutorref08_Import (fun r0 r1 r2 r3 r4 r5 r6 r7 => K (.tup [.agg [.v (.int .i64 r0), .v (.int .i64 r1), .v (.int .i64 r2), .v (.int .i64 r3), .own 0, .own 1], .v (.int .i64 r4), .v (.int .i64 r5)]) [.row ⟨true, 3, (.int .i64), r6⟩, .row ⟨true, 3, (.int .i64), r7⟩]) fuel).2.2.2.1 ∧
    (gt_tutorref08_Import_17 (runO Tryd.prog (T_tutorref08_Import @l_tutorref08_take) cuts_tutorref08_Import 0 (finish Tryd.prog Tryd.f20 0 K) fuel)) = (run_tutorref08_Import (fun r0 r1 r2 r3 r4 r5 r6 r7 => K (.tup [.agg [.v (.int .i64 r0), .v (.int .i64 r1), .v (.int .i64 r2), .v (.int .i64 r3), .own 0, .own 1], .v (.int .i64 r4), .v (.int .i64 r5)]) [.row ⟨true, 3, (.int .i64), r6⟩, .row ⟨true, 3, (.int .i64), r7⟩]) fuel).2.2.2.2.1 ∧
    (gt_tutorref08_Import_18 (runO Tryd.prog (T_tutorref08_Import @l_tutorref08_take) cuts_tutorref08_Import 0 (finish Tryd.prog Tryd.f20 0 K) fuel)) = (run_tutorref08_Import (fun r0 r1 r2 r3 r4 r5 r6 r7 => K (.tup [.agg [.v (.int .i64 r0), .v (.int .i64 r1), .v (.int .i64 r2), .v (.int .i64 r3), .own 0, .own 1], .v (.int .i64 r4), .v (.int .i64 r5)]) [.row ⟨true, 3, (.int .i64), r6⟩, .row ⟨true, 3, (.int .i64), r7⟩]) fuel).2.2.2.2.2.1 ∧
    (gt_tutorref08_Import_20 (runO Tryd.prog (T_tutorref08_Import @l_tutorref08_take) cuts_tutorref08_Import 0 (finish Tryd.prog Tryd.f20 0 K) fuel)) = (run_tutorref08_Import (fun r0 r1 r2 r3 r4 r5 r6 r7 => K (.tup [.agg [.v (.int .i64 r0), .v (.int .i64 r1), .v (.int .i64 r2), .v (.int .i64 r3), .own 0, .own 1], .v (.int .i64 r4), .v (.int .i64 r5)]) [.row ⟨true, 3, (.int .i64), r6⟩, .row ⟨true, 3, (.int .i64), r7⟩]) fuel).2.2.2.2.2.2.1 ∧
    (gt_tutorref08_Import_24 (runO Tryd.prog (T_tutorref08_Import @l_tutorref08_take) cuts_tutorref08_Import 0 (finish Tryd.prog Tryd.f20 0 K) fuel)) = (run_tutorref08_Import (fun r0 r1 r2 r3 r4 r5 r6 r7 => K (.tup [.agg [.v (.int .i64 r0), .v (.int .i64 r1), .v (.int .i64 r2), .v (.int .i64 r3), .own 0, .own 1], .v (.int .i64 r4), .v (.int .i64 r5)]) [.row ⟨true, 3, (.int .i64), r6⟩, .row ⟨true, 3, (.int .i64), r7⟩]) fuel).2.2.2.2.2.2.2.1 ∧
    (gt_tutorref08_Import_31 (runO Tryd.prog (T_tutorref08_Import @l_tutorref08_take) cuts_tutorref08_Import 0 (finish Tryd.prog Tryd.f20 0 K) fuel)) = (run_tutorref08_Import (fun r0 r1 r2 r3 r4 r5 r6 r7 => K (.tup [.agg [.v (.int .i64 r0), .v (.int .i64 r1), .v (.int .i64 r2), .v (.int .i64 r3), .own 0, .own 1], .v (.int .i64 r4), .v (.int .i64 r5)]) [.row ⟨true, 3, (.int .i64), r6⟩, .row ⟨true, 3, (.int .i64), r7⟩]) fuel).2.2.2.2.2.2.2.2.1 ∧
    (gt_tutorref08_Import_26 (runO Tryd.prog (T_tutorref08_Import @l_tutorref08_take) cuts_tutorref08_Import 0 (finish Tryd.prog Tryd.f20 0 K) fuel)) = (run_tutorref08_Import (fun r0 r1 r2 r3 r4 r5 r6 r7 => K (.tup [.agg [.v (.int .i64 r0), .v (.int .i64 r1), .v (.int .i64 r2), .v (.int .i64 r3), .own 0, .own 1], .v (.int .i64 r4), .v (.int .i64 r5)]) [.row ⟨true, 3, (.int .i64), r6⟩, .row ⟨true, 3, (.int .i64), r7⟩]) fuel).2.2.2.2.2.2.2.2.2.1 ∧
    (gt_tutorref08_Import_41a (runO Tryd.prog (T_tutorref08_Import @l_tutorref08_take) cuts_tutorref08_Import 0 (finish Tryd.prog Tryd.f20 0 K) fuel)) = (run_tutorref08_Import (fun r0 r1 r2 r3 r4 r5 r6 r7 => K (.tup [.agg [.v (.int .i64 r0), .v (.int .i64 r1), .v (.int .i64 r2), .v (.int .i64 r3), .own 0, .own 1], .v (.int .i64 r4), .v (.int .i64 r5)]) [.row ⟨true, 3, (.int .i64), r6⟩, .row ⟨true, 3, (.int .i64), r7⟩]) fuel).2.2.2.2.2.2.2.2.2.2.1 ∧
    (gt_tutorref08_Import_41b (runO Tryd.prog (T_tutorref08_Import @l_tutorref08_take) cuts_tutorref08_Import 0 (finish Tryd.prog Tryd.f20 0 K) fuel)) = (run_tutorref08_Import (fun r0 r1 r2 r3 r4 r5 r6 r7 => K (.tup [.agg [.v (.int .i64 r0), .v (.int .i64 r1), .v (.int .i64 r2), .v (.int .i64 r3), .own 0, .own 1], .v (.int .i64 r4), .v (.int .i64 r5)]) [.row ⟨true, 3, (.int .i64), r6⟩, .row ⟨true, 3, (.int .i64), r7⟩]) fuel).2.2.2.2.2.2.2.2.2.2.2.1 ∧
    (gt_tutorref08_Import_27 (runO Tryd.prog (T_tutorref08_Import @l_tutorref08_take) cuts_tutorref08_Import 0 (finish Tryd.prog Tryd.f20 0 K) fuel)) = (run_tutorref08_Import (fun r0 r1 r2 r3 r4 r5 r6 r7 => K (.tup [.agg [.v (.int .i64 r0), .v (.int .i64 r1), .v (.int .i64 r2), .v (.int .i64 r3), .own 0, .own 1], .v (.int .i64 r4), .v (.int .i64 r5)]) [.row ⟨true, 3, (.int .i64), r6⟩, .row ⟨true, 3, (.int .i64), r7⟩]) fuel).2.2.2.2.2.2.2.2.2.2.2.2
  | 0 => ⟨rfl, rfl, rfl, rfl, rfl, rfl, rfl, rfl, rfl, rfl, rfl, rfl, rfl⟩
  | fuel + 1 => by
    have ih := runs_tutorref08_Import K fuel
    refine ⟨?_, ?_, ?_, ?_, ?_, ?_, ?_, ?_, ?_, ?_, ?_, ?_, ?_⟩
    · funext b o0 o0_1 o0_2 o0_3 o1 o2 o3 o3_1 o3_2 o3_3 o4 o4_1 o4_2 o4_3 o5 o5_1 o5_2 o5_3
      refine (gstep_tutorref08_Import_4 @l_tutorref08_take _ K b o0 o0_1 o0_2 o0_3 o1 o2 o3 o3_1 o3_2 o3_3 o4 o4_1 o4_2 o4_3 o5 o5_1 o5_2 o5_3).trans ?_
      rw [ih.1, ih.2.1, ih.2.2.1, ih.2.2.2.1, ih.2.2.2.2.1, ih.2.2.2.2.2.1, ih.2.2.2.2.2.2.1, ih.2.2.2.2.2.2.2.1, ih.2.2.2.2.2.2.2.2.1, ih.2.2.2.2.2.2.2.2.2.1, ih.2.2.2.2.2.2.2.2.2.2.1, ih.2.2.2.2.2.2.2.2.2.2.2.1, ih.2.2.2.2.2.2.2.2.2.2.2.2]
      rfl
    · funext b o0 o0_1 o0_2 o0_3 o1 o2 o3 o3_1 o3_2 o3_3 o4 o4_1 o4_2 o4_3 o5 o5_1 o5_2 o5_3 o6 o6_1 o6_2 o6_3 o7 o7_1 o7_2 o7_3
      refine (gstep_tutorref08_Import_5 @l_tutorref08_take _ K b o0 o0_1 o0_2 o0_3 o1 o2 o3 o3_1 o3_2 o3_3 o4 o4_1 o4_2 o4_3 o5 o5_1 o5_2 o5_3 o6 o6_1 o6_2 o6_3 o7 o7_1 o7_2 o7_3).trans ?_
      rw [ih.1, ih.2.1, ih.2.2.1, ih.2.2.2.1, ih.2.2.2.2.1, ih.2.2.2.2.2.1, ih.2.2.2.2.2.2.1, ih.2.2.2.2.2.2.2.1, ih.2.2.2.2.2.2.2.2.1, ih.2.2.2.2.2.2.2.2.2.1, ih.2.2.2.2.2.2.2.2.2.2.1, ih.2.2.2.2.2.2.2.2.2.2.2.1, ih.2.2.2.2.2.2.2.2.2.2.2.2]
      rfl
    · funext b vat e o0 o0_1 o0_2 o0_3 o1 o2 o3 o3_1 o3_2 o3_3 o4 o4_1 o4_2 o4_3 o5 o5_1 o5_2 o5_3 o6 o7 o8
      refine (gstep_tutorref08_Import_12 @l_tutorref08_take _ K b vat e o0 o0_1 o0_2 o0_3 o1 o2 o3 o3_1 o3_2 o3_3 o4 o4_1 o4_2 o4_3 o5 o5_1 o5_2 o5_3 o6 o7 o8).trans ?_
      rw [ih.1, ih.2.1, ih.2.2.1, ih.2.2.2.1, ih.2.2.2.2.1, ih.2.2.2.2.2.1, ih.2.2.2.2.2.2.1, ih.2.2.2.2.2.2.2.1, ih.2.2.2.2.2.2.2.2.1, ih.2.2.2.2.2.2.2.2.2.1, ih.2.2.2.2.2.2.2.2.2.2.1, ih.2.2.2.2.2.2.2.2.2.2.2.1, ih.2.2.2.2.2.2.2.2.2.2.2.2]
      rfl
    · funext b vat o0 o0_1 o0_2 o0_3 o1 o2 o3 o3_1 o3_2 o3_3 o4 o4_1 o4_2 o4_3 o5 o5_1 o5_2 o5_3 o6 o7 o8
      refine (gstep_tutorref08_Import_14 @l_tutorref08_take _ K b vat o0 o0_1 o0_2 o0_3 o1 o2 o3 o3_1 o3_2 o3_3 o4 o4_1 o4_2 o4_3 o5 o5_1 o5_2 o5_3 o6 o7 o8).trans ?_
      rw [ih.1, ih.2.1, ih.2.2.1, ih.2.2.2.1, ih.2.2.2.2.1, ih.2.2.2.2.2.1, ih.2.2.2.2.2.2.1, ih.2.2.2.2.2.2.2.1, ih.2.2.2.2.2.2.2.2.1, ih.2.2.2.2.2.2.2.2.2.1, ih.2.2.2.2.2.2.2.2.2.2.1, ih.2.2.2.2.2.2.2.2.2.2.2.1, ih.2.2.2.2.2.2.2.2.2.2.2.2]
      rfl
    · funext b vat o0 o0_1 o0_2 o0_3 o1 o2 o3 o3_1 o3_2 o3_3 o4 o4_1 o4_2 o4_3 o5 o5_1 o5_2 o5_3 o6 o7
      refine (gstep_tutorref08_Import_17 @l_tutorref08_take _ K b vat o0 o0_1 o0_2 o0_3 o1 o2 o3 o3_1 o3_2 o3_3 o4 o4_1 o4_2 o4_3 o5 o5_1 o5_2 o5_3 o6 o7).trans ?_
      rw [ih.1, ih.2.1, ih.2.2.1, ih.2.2.2.1, ih.2.2.2.2.1, ih.2.2.2.2.2.1, ih.2.2.2.2.2.2.1, ih.2.2.2.2.2.2.2.1, ih.2.2.2.2.2.2.2.2.1, ih.2.2.2.2.2.2.2.2.2.1, ih.2.2.2.2.2.2.2.2.2.2.1, ih.2.2.2.2.2.2.2.2.2.2.2.1, ih.2.2.2.2.2.2.2.2.2.2.2.2]
      rfl
    · funext b vat o0 o0_1 o0_2 o0_3 o1 o2 o3 o3_1 o3_2 o3_3 o4 o4_1 o4_2 o4_3 o5 o5_1 o5_2 o5_3 o6 o7 o8 o8_1 o8_2 o8_3 o9 o9_1 o9_2 o9_3
      refine (gstep_tutorref08_Import_18 @l_tutorref08_take _ K b vat o0 o0_1 o0_2 o0_3 o1 o2 o3 o3_1 o3_2 o3_3 o4 o4_1 o4_2 o4_3 o5 o5_1 o5_2 o5_3 o6 o7 o8 o8_1 o8_2 o8_3 o9 o9_1 o9_2 o9_3).trans ?_
      rw [ih.1, ih.2.1, ih.2.2.1, ih.2.2.2.1, ih.2.2.2.2.1, ih.2.2.2.2.2.1, ih.2.2.2.2.2.2.1, ih.2.2.2.2.2.2.2.1, ih.2.2.2.2.2.2.2.2.1, ih.2.2.2.2.2.2.2.2.2.1, ih.2.2.2.2.2.2.2.2.2.2.1, ih.2.2.2.2.2.2.2.2.2.2.2.1, ih.2.2.2.2.2.2.2.2.2.2.2.2]
      rfl
    · funext b vat x o0 o0_1 o0_2 o0_3 o1 o2 o3 o3_1 o3_2 o3_3 o4 o4_1 o4_2 o4_3 o5 o5_1 o5_2 o5_3 o6 o7 o8 o8_1 o8_2 o8_3 o9 o9_1 o9_2 o9_3 o10
      refine (gstep_tutorref08_Import_20 @l_tutorref08_take _ K b vat x o0 o0_1 o0_2 o0_3 o1 o2 o3 o3_1 o3_2 o3_3 o4 o4_1 o4_2 o4_3 o5 o5_1 o5_2 o5_3 o6 o7 o8 o8_1 o8_2 o8_3 o9 o9_1 o9_2 o9_3 o10).trans ?_
      rw [ih.1, ih.2.1, ih.2.2.1, ih.2.2.2.1, ih.2.2.2.2.1, ih.2.2.2.2.2.1, ih.2.2.2.2.2.2.1, ih.2.2.2.2.2.2.2.1, ih.2.2.2.2.2.2.2.2.1, ih.2.2.2.2.2.2.2.2.2.1, ih.2.2.2.2.2.2.2.2.2.2.1, ih.2.2.2.2.2.2.2.2.2.2.2.1, ih.2.2.2.2.2.2.2.2.2.2.2.2]
      rfl
    · funext b vat x o0 o0_1 o0_2 o0_3 o1 o2 o3 o3_1 o3_2 o3_3 o4 o4_1 o4_2 o4_3 o5 o5_1 o5_2 o5_3 o6 o7 o8 o8_1 o8_2 o8_3 o9 o9_1 o9_2 o9_3 o10
      refine (gstep_tutorref08_Import_24 @l_tutorref08_take _ K b vat x o0 o0_1 o0_2 o0_3 o1 o2 o3 o3_1 o3_2 o3_3 o4 o4_1 o4_2 o4_3 o5 o5_1 o5_2 o5_3 o6 o7 o8 o8_1 o8_2 o8_3 o9 o9_1 o9_2 o9_3 o10).trans ?_
      rw [ih.1, ih.2.1, ih.2.2.1, ih.2.2.2.1, ih.2.2.2.2.1, ih.2.2.2.2.2.1, ih.2.2.2.2.2.2.1, ih.2.2.2.2.2.2.2.1, ih.2.2.2.2.2.2.2.2.1, ih.2.2.2.2.2.2.2.2.2.1, ih.2.2.2.2.2.2.2.2.2.2.1, ih.2.2.2.2.2.2.2.2.2.2.2.1, ih.2.2.2.2.2.2.2.2.2.2.2.2]
      rfl
    · funext b vat s o0 o0_1 o0_2 o0_3 o1 o2 o3 o3_1 o3_2 o3_3 o4 o5 o6
      refine (gstep_tutorref08_Import_31 @l_tutorref08_take _ K b vat s o0 o0_1 o0_2 o0_3 o1 o2 o3 o3_1 o3_2 o3_3 o4 o5 o6).trans ?_
      rw [ih.1, ih.2.1, ih.2.2.1, ih.2.2.2.1, ih.2.2.2.2.1, ih.2.2.2.2.2.1, ih.2.2.2.2.2.2.1, ih.2.2.2.2.2.2.2.1, ih.2.2.2.2.2.2.2.2.1, ih.2.2.2.2.2.2.2.2.2.1, ih.2.2.2.2.2.2.2.2.2.2.1, ih.2.2.2.2.2.2.2.2.2.2.2.1, ih.2.2.2.2.2.2.2.2.2.2.2.2]
      rfl
    · funext b vat x o0 o0_1 o0_2 o0_3 o1 o2 o3 o3_1 o3_2 o3_3 o4 o4_1 o4_2 o4_3 o5 o5_1 o5_2 o5_3 o6 o7 o8 o8_1 o8_2 o8_3 o9 o9_1 o9_2 o9_3 o10
      refine (gstep_tutorref08_Import_26 @l_tutorref08_take _ K b vat x o0 o0_1 o0_2 o0_3 o1 o2 o3 o3_1 o3_2 o3_3 o4 o4_1 o4_2 o4_3 o5 o5_1 o5_2 o5_3 o6 o7 o8 o8_1 o8_2 o8_3 o9 o9_1 o9_2 o9_3 o10).trans ?_
      rw [ih.1, ih.2.1, ih.2.2.1, ih.2.2.2.1, ih.2.2.2.2.1, ih.2.2.2.2.2.1, ih.2.2.2.2.2.2.1, ih.2.2.2.2.2.2.2.1, ih.2.2.2.2.2.2.2.2.1, ih.2.2.2.2.2.2.2.2.2.1, ih.2.2.2.2.2.2.2.2.2.2.1, ih.2.2.2.2.2.2.2.2.2.2.2.1, ih.2.2.2.2.2.2.2.2.2.2.2.2]
      rfl
    · funext b vat s l i o0 o0_1 o0_2 o0_3 o1 o2 o3 o3_1 o3_2 o3_3 o4 o5 o6 o7
      refine (gstep_tutorref08_Import_41a @l_tutorref08_take _ K b vat s l i o0 o0_1 o0_2 o0_3 o1 o2 o3 o3_1 o3_2 o3_3 o4 o5 o6 o7).trans ?_
      rw [ih.1, ih.2.1, ih.2.2.1, ih.2.2.2.1, ih.2.2.2.2.1, ih.2.2.2.2.2.1, ih.2.2.2.2.2.2.1, ih.2.2.2.2.2.2.2.1, ih.2.2.2.2.2.2.2.2.1, ih.2.2.2.2.2.2.2.2.2.1, ih.2.2.2.2.2.2.2.2.2.2.1, ih.2.2.2.2.2.2.2.2.2.2.2.1, ih.2.2.2.2.2.2.2.2.2.2.2.2]
      rfl
    · funext b vat s i o0 o0_1 o0_2 o0_3 o1 o2 o3 o3_1 o3_2 o3_3 o4 o5 o6 o7
      refine (gstep_tutorref08_Import_41b @l_tutorref08_take _ K b vat s i o0 o0_1 o0_2 o0_3 o1 o2 o3 o3_1 o3_2 o3_3 o4 o5 o6 o7).trans ?_
      rw [ih.1, ih.2.1, ih.2.2.1, ih.2.2.2.1, ih.2.2.2.2.1, ih.2.2.2.2.2.1, ih.2.2.2.2.2.2.1, ih.2.2.2.2.2.2.2.1, ih.2.2.2.2.2.2.2.2.1, ih.2.2.2.2.2.2.2.2.2.1, ih.2.2.2.2.2.2.2.2.2.2.1, ih.2.2.2.2.2.2.2.2.2.2.2.1, ih.2.2.2.2.2.2.2.2.2.2.2.2]
      rfl
    · funext b vat x o0 o0_1 o0_2 o0_3 o1 o2 o3 o3_1 o3_2 o3_3 o4 o4_1 o4_2 o4_3 o5 o5_1 o5_2 o5_3 o6 o7 o8 o8_1 o8_2 o8_3 o9 o9_1 o9_2 o9_3 o10
      refine (gstep_tutorref08_Import_27 @l_tutorref08_take _ K b vat x o0 o0_1 o0_2 o0_3 o1 o2 o3 o3_1 o3_2 o3_3 o4 o4_1 o4_2 o4_3 o5 o5_1 o5_2 o5_3 o6 o7 o8 o8_1 o8_2 o8_3 o9 o9_1 o9_2 o9_3 o10).trans ?_
      rw [ih.1, ih.2.1, ih.2.2.1, ih.2.2.2.1, ih.2.2.2.2.1, ih.2.2.2.2.2.1, ih.2.2.2.2.2.2.1, ih.2.2.2.2.2.2.2.1, ih.2.2.2.2.2.2.2.2.1, ih.2.2.2.2.2.2.2.2.2.1, ih.2.2.2.2.2.2.2.2.2.2.1, ih.2.2.2.2.2.2.2.2.2.2.2.1, ih.2.2.2.2.2.2.2.2.2.2.2.2]
      rfl

def S_tutorref08_Import (l_tutorref08_Import : LT_tutorref08_Import) : Sum := ⟨[], fun {R} args ob K => match args, ob with
  | [.rd ⟨false, 5, (.int .u8), b⟩], [] => l_tutorref08_Import b (fun r0 r1 r2 r3 r4 r5 r6 r7 => K (.tup [.agg [.v (.int .i64 r0), .v (.int .i64 r1), .v (.int .i64 r2), .v (.int .i64 r3), .own 0, .own 1], .v (.int .i64 r4), .v (.int .i64 r5)]) [.row ⟨true, 3, (.int .i64), r6⟩, .row ⟨true, 3, (.int .i64), r7⟩])
  | _, _ => none⟩

theorem sound_tutorref08_Import : Sound Tryd.prog 20 (S_tutorref08_Import @l_tutorref08_Import) := by
  refine fn_sound (cuts := cuts_tutorref08_Import) (fn := Tryd.f20) (Γ := (T_tutorref08_Import @l_tutorref08_take)) wide right_T_tutorref08_Import Tryd.func20 fun {R} K r args ob h => ?_
  unfold S_tutorref08_Import at h
  dsimp only at h
  split at h
  · obtain ⟨n, hn⟩ := ok_tutorref08_Import _ _ h
    refine ⟨Nat.le_of_ble_eq_true (by kernel_rfl), n, (gentry_tutorref08_Import @l_tutorref08_take n K _).trans ?_⟩
    rw [(runs_tutorref08_Import K n).1, (runs_tutorref08_Import K n).2.1, (runs_tutorref08_Import K n).2.2.1, (runs_tutorref08_Import K n).2.2.2.1, (runs_tutorref08_Import K n).2.2.2.2.1, (runs_tutorref08_Import K n).2.2.2.2.2.1, (runs_tutorref08_Import K n).2.2.2.2.2.2.1, (runs_tutorref08_Import K n).2.2.2.2.2.2.2.1, (runs_tutorref08_Import K n).2.2.2.2.2.2.2.2.1, (runs_tutorref08_Import K n).2.2.2.2.2.2.2.2.2.1, (runs_tutorref08_Import K n).2.2.2.2.2.2.2.2.2.2.1, (runs_tutorref08_Import K n).2.2.2.2.2.2.2.2.2.2.2.1, (runs_tutorref08_Import K n).2.2.2.2.2.2.2.2.2.2.2.2]
    exact hn
  · cases h

theorem call_tutorref08_Import : Callable Tryd.prog 20 := ⟨_, Tryd.func20, by kernel_rfl, by kernel_rfl⟩

def T_tutorref08_Same : FuncId → Option Sum := G0

theorem right_T_tutorref08_Same : Right Tryd.prog T_tutorref08_Same := right_G0

abbrev cuts_tutorref08_Same : Cuts := []

theorem gentry_tutorref08_Same {R : Type} (K : AV → List O → Option R) (a b : List Int) :
    fnRun Tryd.prog T_tutorref08_Same cuts_tutorref08_Same Tryd.f16 0 [.rd ⟨false, 5, (.int .u8), a⟩, .rd ⟨false, 5, (.int .u8), b⟩] [] K =
    (fun (a b : List Int) (K0 : Bool → Option R) =>
    K0 ((ofBts a).toList == (ofBts b).toList)) a b (fun r0 => K (.v (.bool r0)) []) := by kernel_rfl

def S_tutorref08_Same (l_tutorref08_Same : LT_tutorref08_Same) : Sum := ⟨[], fun {R} args ob K => match args, ob with
  | [.rd ⟨false, 5, (.int .u8), a⟩, .rd ⟨false, 5, (.int .u8), b⟩], [] => l_tutorref08_Same a b (fun r0 => K (.v (.bool r0)) [])
  | _, _ => none⟩

theorem sound_tutorref08_Same : Sound Tryd.prog 16 (S_tutorref08_Same @l_tutorref08_Same) := by
  refine fn_sound (cuts := cuts_tutorref08_Same) (fn := Tryd.f16) (Γ := T_tutorref08_Same) wide right_T_tutorref08_Same Tryd.func16 fun {R} K r args ob h => ?_
  unfold S_tutorref08_Same at h
  dsimp only at h
  split at h
  · exact ⟨Nat.le_of_ble_eq_true (by kernel_rfl), 0, (gentry_tutorref08_Same K _ _).trans h⟩
  · cases h

theorem call_tutorref08_Same : Callable Tryd.prog 16 := ⟨_, Tryd.func16, by kernel_rfl, by kernel_rfl⟩

def T_tutorlaw08_TextImports (l_tutorlaw08_live : LT_tutorlaw08_live) (l_tutorref08_Same : LT_tutorref08_Same) (l_tutorlaw08_num : LT_tutorlaw08_num) (l_tutorref03_Same : LT_tutorref03_Same) (l_tutorref08_Import : LT_tutorref08_Import) (l_text_Import : LT_text_Import) : FuncId → Option Sum := (addS (addS (addS (addS (addS (addS G0 12 (S_tutorlaw08_live @l_tutorlaw08_live)) 16 (S_tutorref08_Same @l_tutorref08_Same)) 17 (S_tutorlaw08_num @l_tutorlaw08_num)) 18 (S_tutorref03_Same @l_tutorref03_Same)) 20 (S_tutorref08_Import @l_tutorref08_Import)) 19 (S_text_Import @l_text_Import))

theorem right_T_tutorlaw08_TextImports : Right Tryd.prog (T_tutorlaw08_TextImports @l_tutorlaw08_live @l_tutorref08_Same @l_tutorlaw08_num @l_tutorref03_Same @l_tutorref08_Import @l_text_Import) := (right_add (right_add (right_add (right_add (right_add (right_add right_G0 call_tutorlaw08_live sound_tutorlaw08_live) call_tutorref08_Same sound_tutorref08_Same) call_tutorlaw08_num sound_tutorlaw08_num) call_tutorref03_Same sound_tutorref03_Same) call_tutorref08_Import sound_tutorref08_Import) call_text_Import sound_text_Import)

abbrev cuts_tutorlaw08_TextImports : Cuts := []

theorem gentry_tutorlaw08_TextImports (l_tutorlaw08_live : LT_tutorlaw08_live) (l_tutorref08_Same : LT_tutorref08_Same) (l_tutorlaw08_num : LT_tutorlaw08_num) (l_tutorref03_Same : LT_tutorref03_Same) (l_tutorref08_Import : LT_tutorref08_Import) (l_text_Import : LT_text_Import) {R : Type} (K : AV → List O → Option R) (b : List Int) :
    fnRun Tryd.prog (T_tutorlaw08_TextImports @l_tutorlaw08_live @l_tutorref08_Same @l_tutorlaw08_num @l_tutorref03_Same @l_tutorref08_Import @l_text_Import) cuts_tutorlaw08_TextImports Tryd.f4 0 [.rd ⟨false, 5, (.int .u8), b⟩] [] K =
    (fun (b : List Int) (K0 : Bool → Option R) =>
    bi (decide ((b.length : Int) > 20000))
     (l_tutorlaw08_live
      (fun r1 =>
       K0 r1))
     (bi (decide ((([] : List Int).length + b.length) * 1 ≤ lim))
      (l_text_Import (([] : List Int) ++ b)
       (fun r2 r3 r4 r5 r6 r7 r8 r9 =>
        l_tutorref08_Import b
         (fun r10 r11 r12 r13 r14 r15 r16 r17 =>
          l_tutorref03_Same r2 r3 r4 r5 r8 r9 r10 r11 r12 r13 r16 r17
           (fun r18 =>
            bi r18
             (l_tutorlaw08_num r6
              (fun r19 =>
               bi (r19 == r14)
                (bi (r7 == r15)
                 (l_tutorref08_Same (([] : List Int) ++ b) b
                  (fun r20 =>
                   bi r20
                    (l_tutorlaw08_live
                     (fun r21 =>
                      K0 r21))
                    (K0 false)))
                 (K0 false))
                (K0 false)))
             (K0 false)))))
      none)) b (fun r0 => K (.v (.bool r0)) []) := by kernel_rfl

def S_tutorlaw08_TextImports (l_tutorlaw08_TextImports : LT_tutorlaw08_TextImports) : Sum := ⟨[], fun {R} args ob K => match args, ob with
  | [.rd ⟨false, 5, (.int .u8), b⟩], [] => l_tutorlaw08_TextImports b (fun r0 => K (.v (.bool r0)) [])
  | _, _ => none⟩

theorem sound_tutorlaw08_TextImports : Sound Tryd.prog 4 (S_tutorlaw08_TextImports @l_tutorlaw08_TextImports) := by
  refine fn_sound (cuts := cuts_tutorlaw08_TextImports) (fn := Tryd.f4) (Γ := (T_tutorlaw08_TextImports @l_tutorlaw08_live @l_tutorref08_Same @l_tutorlaw08_num @l_tutorref03_Same @l_tutorref08_Import @l_text_Import)) wide right_T_tutorlaw08_TextImports Tryd.func4 fun {R} K r args ob h => ?_
  unfold S_tutorlaw08_TextImports at h
  dsimp only at h
  split at h
  · exact ⟨Nat.le_of_ble_eq_true (by kernel_rfl), 0, (gentry_tutorlaw08_TextImports @l_tutorlaw08_live @l_tutorref08_Same @l_tutorlaw08_num @l_tutorref03_Same @l_tutorref08_Import @l_text_Import K _).trans h⟩
  · cases h

theorem call_tutorlaw08_TextImports : Callable Tryd.prog 4 := ⟨_, Tryd.func4, by kernel_rfl, by kernel_rfl⟩

end
end Go.Ev
